/- grapevinelaw10.PostThree answers true: the walk. -/
import Derived.Test.YtajggbekljohpaaPostN
namespace Go.Proofs.Ytajggbekljohpaa
open Go.RowKit

theorem PL.shape {W : World} {v : Value} {p : List Post} (h : PL W v p) : ∃ A n c, v = .slice A n c := by
  obtain ⟨A, n, c, rfl, _⟩ := h; exact ⟨A, n, c, rfl⟩
section
variable {x y z : Value} {a b c : List Post} {w : World}

/-- what is left out: the law says what it says of small lists -/
def skips (a b c : List Post) : Bool := greatB [a, b, c] 3 || !mayB a || !mayB b || !mayB c

set_option maxRecDepth 100000 in
set_option maxHeartbeats 3200000 in
theorem three_skips (hx : PL w x a) (hy : PL w y b) (hz : PL w z c) (hs : skips a b c = true) :
    Calls Try.prog 3 #[x, y, z] w fun e w' => e = .returned (.bool true) ∧ Below w.heap.size w w' := by
  obtain ⟨A, n, cn, rfl⟩ := hx.shape
  obtain ⟨B, m, cm, rfl⟩ := hy.shape
  obtain ⟨C, l, cl, rfl⟩ := hz.shape
  have hrow := row3_alloc (t := 22) hx hy hz
  have hB0 : Below w.heap.size w (w.alloc (.cells #[.slice A n cn, .slice B m cm, .slice C l cl] 22)) := (Below.refl _ _).alloc (Nat.le_refl _) _
  have hx1 := hx.keep hB0
  have hy1 := hy.keep hB0
  have hz1 := hz.keep hB0
  have hgr := hid (c_great (k := 3) hrow (by simp [go_sem]) (by simp)); clear hrow
  cases hg : greatB [a, b, c] 3
  · cases ha : mayB a
    · go_enter Try.func3, Try.ntmps3
      go_wp2_with (first
        | (go_at_call 4; refine hgr.out.mono ?_; rw [hg]; rintro e w1 ⟨rfl, rfl⟩)
        | (go_at_call 5; refine (c_may hx1).mono ?_; rw [ha]; rintro e w2 ⟨rfl, hb2⟩)
        | (go_at_call 6; refine (awake_any _).mono ?_; rintro e w3 ⟨rfl, hb3⟩))
      go_ret
      exact ⟨rfl, bl_al (hb2.trans (hb3.mono hb2.size))⟩
    · cases hb : mayB b
      · go_enter Try.func3, Try.ntmps3
        go_wp2_with (first
          | (go_at_call 4; refine hgr.out.mono ?_; rw [hg]; rintro e w1 ⟨rfl, rfl⟩)
          | (go_at_call 5; refine (c_may hx1).mono ?_; rw [ha]; rintro e w2 ⟨rfl, hb2⟩; replace hy1 := hy1.keep hb2; clear hx1)
          | (go_at_call 5; refine (c_may hy1).mono ?_; rw [hb]; rintro e w3 ⟨rfl, hb3⟩)
          | (go_at_call 6; refine (awake_any _).mono ?_; rintro e w4 ⟨rfl, hb4⟩))
        go_ret
        exact ⟨rfl, bl_al ((hb2.trans (hb3.mono hb2.size)).trans (hb4.mono (Nat.le_trans hb2.size hb3.size)))⟩
      · cases hc : mayB c
        · go_enter Try.func3, Try.ntmps3
          go_wp2_with (first
            | (go_at_call 4; refine hgr.out.mono ?_; rw [hg]; rintro e w1 ⟨rfl, rfl⟩)
            | (go_at_call 5; refine (c_may hx1).mono ?_; rw [ha]; rintro e w2 ⟨rfl, hb2⟩; replace hy1 := hy1.keep hb2; replace hz1 := hz1.keep hb2; clear hx1)
            | (go_at_call 5; refine (c_may hy1).mono ?_; rw [hb]; rintro e w3 ⟨rfl, hb3⟩; replace hz1 := hz1.keep hb3; clear hy1)
            | (go_at_call 5; refine (c_may hz1).mono ?_; rw [hc]; rintro e w4 ⟨rfl, hb4⟩)
            | (go_at_call 6; refine (awake_any _).mono ?_; rintro e w5 ⟨rfl, hb5⟩))
          go_ret
          exact ⟨rfl, bl_al (((hb2.trans (hb3.mono hb2.size)).trans (hb4.mono (Nat.le_trans hb2.size hb3.size))).trans (hb5.mono (Nat.le_trans (Nat.le_trans hb2.size hb3.size) hb4.size)))⟩
        · simp [skips, hg, ha, hb, hc] at hs
  · go_enter Try.func3, Try.ntmps3
    go_wp2_with (first
      | (go_at_call 4; refine hgr.out.mono ?_; rw [hg]; rintro e w1 ⟨rfl, rfl⟩)
      | (go_at_call 6; refine (awake_any _).mono ?_; rintro e w3 ⟨rfl, hb3⟩))
    go_ret
    exact ⟨rfl, bl_al hb3⟩
end
end Go.Proofs.Ytajggbekljohpaa
