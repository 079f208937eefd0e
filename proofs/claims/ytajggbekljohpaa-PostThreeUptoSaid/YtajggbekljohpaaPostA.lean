/- Keys' order, rising places, lists that may be: the walks of record.Before, post.order, post.rises, post.May. -/
import Derived.Test.YtajggbekljohpaaProg
import Derived.Test.YtajggbekljohpaaMem
import Derived.Deep.RegionHeld3
import Derived.Deep.QuietTactic
import Derived.BigQuiet
import Derived.StillTailTactics
namespace Go.Proofs.Ytajggbekljohpaa
open Go.RowKit

def kLt (a b : Key) : Bool := decide (a.o < b.o ∨ (a.o = b.o ∧ a.s < b.s))
theorem kLt_iff {a b : Key} : kLt a b = true ↔ (a.o < b.o ∨ (a.o = b.o ∧ a.s < b.s)) := by unfold kLt; exact decide_eq_true_iff
def risesFrom (last : Int) : List Int → Bool
  | [] => true
  | n :: r => decide (last < n) && risesFrom n r
def risesB (l : List Int) : Bool := risesFrom (-1) l && !l.isEmpty
def mayFrom (last : Option Key) : List Post → Bool
  | [] => true
  | p :: r => risesB p.at_ && (match last with | none => true | some q => kLt q p.k) && mayFrom (some p.k) r
def mayB (l : List Post) : Bool := mayFrom none l
/-- -1, 0, 1 -/
def kCmp (a b : Key) : Int := if kLt a b then -1 else if kLt b a then 1 else 0

theorem before_any (a b : Key) (w : World) :
    Calls Try.prog 12 #[.agg #[.int .i64 a.o, .int .i64 a.s], .agg #[.int .i64 b.o, .int .i64 b.s]] w fun e w' => e = .returned (.bool (kLt a b)) ∧ Below w.heap.size w w' := by
  obtain ⟨ao, asq⟩ := a
  obtain ⟨bo, bsq⟩ := b
  by_cases h : ao = bo
  · subst h
    go_enter Try.func12, Try.ntmps12
    go_wp2
    go_ret
    exact ⟨by simp [kLt], ((Below.refl _ _).alloc (Nat.le_refl _) _).alloc (by simp) _⟩
  · have h2 : (ao == bo) = false := by simpa using h
    go_enter Try.func12, Try.ntmps12
    go_wp2
    go_ret
    exact ⟨by simp [kLt, h], ((Below.refl _ _).alloc (Nat.le_refl _) _).alloc (by simp) _⟩

theorem rises_any (A : Option Addr) (n c : Nat) (zs : List Int) (w : World) (S : Nat → Prop) (hn : n ≤ 1048576) (hz : IntsAt w S A n zs) :
    Calls Try.prog 11 #[.slice A n c] w fun e w' => e = .returned (.bool (risesB zs)) ∧ w = w' := by
  go_enter Try.func11, Try.ntmps11
  go_wp2
  go_loop [3, 8] (fun last i => ∃ (k : Nat) (l : Int), k ≤ n ∧ i = .int .i64 k ∧ last = .int .i64 l ∧ Hid (risesFrom l (zs.drop k) = risesFrom (-1) zs)) (fun _ i => n - (intOf i).toNat)
  case atStart => exact ⟨0, -1, by omega, rfl, rfl, hid rfl⟩
  case round =>
    obtain ⟨k, l, hk, rfl, rfl, hh⟩ := hrel
    by_cases hlt : k < n
    · obtain ⟨b, f, x, rfl, hb, hc, _, _, hd⟩ := ints_get hz hlt
      have HD := hid hd; clear hd
      go_wp2
      · have hle : x ≤ l := by assumption
        go_ret
        refine ⟨?_, rfl⟩
        have h1 := hh; rw [HD.out] at h1
        have : risesFrom (-1) zs = false := by rw [← h1.out]; simp [risesFrom]; omega
        simp [risesB, this]
      · have hle : l < x := by assumption
        refine ⟨⟨k + 1, x, by omega, by go_num, rfl, ?_⟩, by simp [intOf]; omega⟩
        have h1 := hh; rw [HD.out] at h1
        exact hid (by rw [← h1.out]; simp [risesFrom, hle])
    · have hk' : k = n := by omega
      subst hk'
      have hl := hz.len
      have hfin : Hid (risesFrom (-1) zs = true) := hid (by rw [← hh.out, List.drop_eq_nil_of_le (by omega)]; rfl)
      have hl2 := hid hl; clear hl
      go_wp2
      go_ret
      refine ⟨?_, rfl⟩
      rw [risesB, hfin.out]
      have hl := hl2.out
      cases zs with
      | nil => simp at hl; subst hl; rfl
      | cons z r => simp at hl; simp; omega

theorem rises_q (A : Option Addr) (n c : Nat) (zs : List Int) (w : World) (S : Nat → Prop) (hn : n ≤ 1048576) (hz : IntsAt w S A n zs) :
    Calls Try.prog 11 #[.slice A n c] w fun e w' => e = .returned (.bool (risesB zs)) ∧ w' = w :=
  (rises_any A n c zs w S hn hz).mono fun _ _ h => ⟨h.1, h.2.symm⟩

theorem order_any (p : Post) (k : Key) (v : Value) (w : World) :
    Calls Try.prog 21 #[.agg #[.int .i64 p.k.o, .int .i64 p.k.s, v], .agg #[.int .i64 k.o, .int .i64 k.s]] w fun e w' => e = .returned (.int .i64 (kCmp p.k k)) ∧ Below w.heap.size w w' := by
  by_cases h1 : kLt p.k k = true
  · have e : Hid (kCmp p.k k = -1) := hid (by simp [kCmp, h1])
    go_enter Try.func21, Try.ntmps21
    go_wp2_with (go_at_call 12; refine (before_any _ _ _).mono ?_; rintro e w1 ⟨rfl, hb⟩)
    go_ret
    exact ⟨by rw [e.out]; rfl, ((((Below.refl _ _).alloc (Nat.le_refl _) _).alloc (by simp) _).trans (hb.mono (by simp; omega)))⟩
  · have h1' : kLt p.k k = false := by simpa using h1
    clear h1
    have fin : ∀ w1 w2 : World, Below ((w.alloc (.cells #[.int .i64 p.k.o, .int .i64 p.k.s, v] 35)).alloc (.cells #[.int .i64 k.o, .int .i64 k.s] 32)).heap.size ((w.alloc (.cells #[.int .i64 p.k.o, .int .i64 p.k.s, v] 35)).alloc (.cells #[.int .i64 k.o, .int .i64 k.s] 32)) w1 →
        Below w1.heap.size w1 w2 → Below w.heap.size w w2 := fun w1 w2 hb hb2 =>
      ((((Below.refl _ _).alloc (Nat.le_refl _) _).alloc (by simp) _).trans (hb.mono (by simp; omega))).trans (hb2.mono (by have := hb.size; simp at this; omega))
    by_cases h2 : kLt k p.k = true
    · have e : Hid (kCmp p.k k = 1) := hid (by simp [kCmp, h1', h2])
      go_enter Try.func21, Try.ntmps21
      go_wp2_with fail
      refine (before_any _ _ _).mono ?_; rintro e w1 ⟨rfl, hb⟩
      obtain ⟨hc, hf⟩ := bcell hb
      go_wp2_with fail
      refine (before_any _ _ _).mono ?_; rintro e w2 ⟨rfl, hb2⟩
      go_wp2
      go_ret
      exact ⟨by rw [e.out]; rfl, fin _ _ hb hb2⟩
    · have h2' : kLt k p.k = false := by simpa using h2
      clear h2
      have e : Hid (kCmp p.k k = 0) := hid (by simp [kCmp, h1', h2'])
      go_enter Try.func21, Try.ntmps21
      go_wp2_with fail
      refine (before_any _ _ _).mono ?_; rintro e w1 ⟨rfl, hb⟩
      obtain ⟨hc, hf⟩ := bcell hb
      go_wp2_with fail
      refine (before_any _ _ _).mono ?_; rintro e w2 ⟨rfl, hb2⟩
      go_wp2
      go_ret
      exact ⟨by rw [e.out]; rfl, fin _ _ hb hb2⟩

theorem may_no {q : Option Key} {x : Post} {r ps : List Post} {l : List Post} (hh : mayFrom q l = mayFrom none ps) (hd : l = x :: r) (h : risesB x.at_ = false) : mayB ps = false := by
  subst hd; rw [mayB, ← hh]; simp [mayFrom, h]
theorem may_no2 {y : Key} {x : Post} {r ps : List Post} {l : List Post} (hh : mayFrom (some y) l = mayFrom none ps) (hd : l = x :: r) (h : kLt y x.k = false) : mayB ps = false := by
  subst hd; rw [mayB, ← hh]; simp [mayFrom, h]
theorem may_on0 {x : Post} {r ps : List Post} {l : List Post} (hh : mayFrom none l = mayFrom none ps) (hd : l = x :: r) (h : risesB x.at_ = true) : mayFrom (some x.k) r = mayFrom none ps := by
  subst hd; rw [← hh]; simp [mayFrom, h]
theorem may_on1 {y : Key} {x : Post} {r ps : List Post} {l : List Post} (hh : mayFrom (some y) l = mayFrom none ps) (hd : l = x :: r) (h : risesB x.at_ = true) (h2 : kLt y x.k = true) : mayFrom (some x.k) r = mayFrom none ps := by
  subst hd; rw [← hh]; simp [mayFrom, h, h2]

theorem may_any (A : Option Addr) (n c : Nat) (ps : List Post) (w : World) (S : Nat → Prop) (hS : ∀ b, S b → b < w.heap.size) (hn : n ≤ 1048576) (hp : PostsAt w S A n ps) (hm : ∀ p ∈ ps, p.at_.length ≤ 1048576) :
    Calls Try.prog 5 #[.slice A n c] w fun e w' => e = .returned (.bool (mayB ps)) ∧ Below w.heap.size w w' := by
  have hmb : Hid (mayB ps = mayFrom none ps) := hid rfl
  go_enter Try.func5, Try.ntmps5
  go_wp2
  go_loopw [7] (fun i wr => ∃ (k : Nat) (q : Option Key), k ≤ n ∧ i = .int .i64 k ∧ Below w.heap.size w wr ∧ Hid (mayFrom q (ps.drop k) = mayFrom none ps) ∧ Hid ((k = 0 ∧ q = none) ∨ ∃ p, 0 < k ∧ ps[k - 1]? = some p ∧ q = some p.k)) (fun i _ => n - (intOf i).toNat)
  case atStart => exact ⟨0, none, by omega, rfl, Below.refl _ _, hid rfl, hid (.inl ⟨rfl, rfl⟩)⟩
  case round =>
    obtain ⟨k, q, hk, rfl, hB, hh, hq⟩ := hrel
    by_cases hlt : k < n
    · have hpk := posts_keep hp (Keep.of_below hB hS)
      obtain ⟨b, f, x, A', m, c', rfl, hb, c0, c1, c2, hmc, hx, hxk, hd⟩ := posts_get hpk hlt
      have HX := hid hxk; clear hxk
      have HD := hid hd; clear hd
      have hbl := cell_lt c0
      have hmx : m ≤ 1048576 := by have := hm x (List.mem_of_getElem? HX.out); rw [hx.len] at this; exact this
      have hS' : ∀ b, S b → b < wr.heap.size := fun b hb => Nat.lt_of_lt_of_le (hS b hb) hB.size
      have hx' : ∀ n, IntsAt ((wr.alloc (.cells #[.int .i64 x.k.o, .int .i64 x.k.s, .slice A' m c'] 35)).drewN n) S A' m x.at_ := fun n => ints_keep hx (((Keep.refl S wr).alloc hS' _).drewN n)
      by_cases g1 : risesB x.at_ = true
      · rcases k with _ | j
        · simp only [Nat.zero_mul, Nat.add_zero] at c0 c1 c2
          go_wp2_with fail
          go_quiet ((go_at_call 11; exact Calls.quiet_of_same (rises_q A' m c' x.at_ _ S hmx (hx' _))))
          go_wp2
          obtain rfl : q = none := by
            rcases hq.out with ⟨_, h⟩ | ⟨_, h, _⟩
            · exact h
            · omega
          exact ⟨⟨1, some x.k, by omega, rfl, bl_drewN (hB.alloc hB.size _) _, hid (may_on0 hh.out HD.out g1), hid (.inr ⟨x, by omega, HX.out, rfl⟩)⟩, by simp [intOf]; omega⟩
        · obtain ⟨b', f', y, _, _, _, hA, _, d0, d1, _, _, _, hyk, _⟩ := posts_get hpk (show j < n by omega)
          obtain ⟨rfl, rfl⟩ : b' = b ∧ f' = f := by cases hA; exact ⟨rfl, rfl⟩
          have HY := hid hyk; clear hyk
          clear hA
          have i1 : (0 : Int) ≤ (j : Int) := by omega
          have hbl1 : b' < wr.heap.size + 1 := by omega
          have i2 : (j : Int) < (n : Int) := by omega
          have i3 : IntKind.i64.wrap (j : Int) = j := IntWalk.i64_in _ (by omega)
          go_wp2_with fail
          go_region_held3 (fun w' => w'.cell? ⟨b', f' + j * 3, none⟩ = some (.int .i64 y.k.o) ∧ w'.cell? ⟨b', f' + j * 3 + 1, none⟩ = some (.int .i64 y.k.s) ∧
              w'.cell? ⟨wr.heap.size, 0, none⟩ = some (.int .i64 x.k.o) ∧ w'.cell? ⟨wr.heap.size, 1, none⟩ = some (.int .i64 x.k.s) ∧ w'.cell? ⟨wr.heap.size, 2, none⟩ = some (.slice A' m c')) (go_keep)
            (first
              | (go_at_call 11; refine (rises_q A' m c' x.at_ _ S hmx (hx' 1)).mono ?_; rintro e w1 ⟨rfl, rfl⟩)
              | (go_at_call 12; refine (before_any y.k x.k _).mono ?_; rintro e w1 ⟨rfl, hbb⟩; obtain ⟨hc, hf⟩ := bcell hbb))
          obtain rfl : q = some y.k := by
            rcases hq.out with ⟨h, _⟩ | ⟨p, _, h, h2⟩
            · omega
            · rw [show j + 1 - 1 = j by omega, HY.out] at h; cases h; exact h2
          have hfin : Below w.heap.size w w1 := (bl_drewN (hB.alloc hB.size _) 1).trans (hbb.mono (by have := hB.size; simp; omega))
          rename_i hHeld
          clear hHeld
          cases g2 : kLt y.k x.k
          · have hno := hid (may_no2 hh.out HD.out g2)
            go_wp2
            go_ret
            exact ⟨by rw [hno.out]; rfl, hfin⟩
          · go_wp2
            exact ⟨⟨j + 1 + 1, some x.k, by omega, by go_num, hfin, hid (may_on1 hh.out HD.out g1 g2), hid (.inr ⟨x, by omega, HX.out, rfl⟩)⟩, by simp [intOf]; omega⟩
      · have g1' : risesB x.at_ = false := by simpa using g1
        clear g1
        go_wp2_with fail
        go_quiet ((go_at_call 11; exact Calls.quiet_of_same (rises_q A' m c' x.at_ _ S hmx (hx' _))))
        have hno := hid (may_no hh.out HD.out g1')
        go_wp2
        go_ret
        exact ⟨by rw [hno.out]; rfl, bl_drewN (hB.alloc hB.size _) _⟩
    · have hk' : k = n := by omega
      subst hk'
      have hl := hp.len
      have hfin : Hid (mayB ps = true) := hid (by rw [hmb.out, ← hh.out, List.drop_eq_nil_of_le (by omega)]; rfl)
      have hl2 := hid hl; clear hl
      go_wp2
      go_ret
      exact ⟨by rw [hfin.out]; rfl, hB⟩
end Go.Proofs.Ytajggbekljohpaa
