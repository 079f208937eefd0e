/- Lists that are more than is gone through: the walk of grapevinelaw0.GreatPosts. -/
import Derived.Test.YtajggbekljohpaaPostA
namespace Go.Proofs.Ytajggbekljohpaa
open Go.RowKit

def wideAt (p : Post) : Bool := decide (30 < p.at_.length)
def greatRow (l : List Post) : Bool := decide (40 < l.length) || l.any wideAt
def greatB (ls : List (List Post)) (most : Int) : Bool := decide (most < (ls.length : Int)) || ls.any greatRow

theorem any_on {α : Type} {f : α → Bool} {l r t : List α} {x : α} (h : l.any f = t.any f) (hd : t = x :: r) (hf : f x = false) : l.any f = r.any f := by
  subst hd; rw [h]; simp [hf]
theorem any_hit {α : Type} {f : α → Bool} {l r t : List α} {x : α} (h : l.any f = t.any f) (hd : t = x :: r) (hf : f x = true) : l.any f = true := by
  subst hd; rw [h]; simp [hf]

set_option maxHeartbeats 400000 in
theorem great_any (A : Option Addr) (n c : Nat) (most : Int) (ls : List (List Post)) (w : World) (S : Nat → Prop) (hn : n ≤ 1048576) (hp : RowsAt w S A n ls)
    (hm : ∀ l ∈ ls, l.length ≤ 1048576 ∧ ∀ p ∈ l, p.at_.length ≤ 1048576) :
    Calls Try.prog 4 #[.slice A n c, .int .i64 most] w fun e w' => e = .returned (.bool (greatB ls most)) ∧ w = w' := by
  have hl := hid hp.len
  go_enter Try.func4, Try.ntmps4
  go_wp2
  go_loop [5] (fun i => ∃ k : Nat, k ≤ n ∧ i = .int .i64 k ∧ Hid (ls.any greatRow = (ls.drop k).any greatRow)) (fun i => n - (intOf i).toNat)
  case atStart => exact ⟨0, by omega, rfl, hid rfl⟩
  case round =>
    obtain ⟨k, hk, rfl, hh⟩ := hrel
    by_cases hlt : k < n
    · by_cases hmo : (n : Int) ≤ most
      · obtain ⟨b, f, x, A', m, c', rfl, hb, c0, hmc, hx, hxk, hd⟩ := rows_get hp hlt
        have HX := hid hxk; clear hxk
        have HD := hid hd; clear hd
        obtain ⟨hmx, hma⟩ := hm x (List.mem_of_getElem? HX.out)
        have hxl := hid hx.len
        rw [hxl.out] at hmx
        go_wp2
        go_loop [6] (fun i => ∃ j : Nat, j ≤ m ∧ i = .int .i64 j ∧ Hid (x.any wideAt = (x.drop j).any wideAt)) (fun i => m - (intOf i).toNat)
        case atStart => exact ⟨0, by omega, rfl, hid rfl⟩
        case round =>
          obtain ⟨j, hj, rfl, hhj⟩ := hrel
          by_cases hlj : j < m
          · by_cases h40 : m ≤ 40
            · obtain ⟨b2, f2, y, A2, m2, c2, rfl, hb2, d0, d1, d2, hmc2, hy, hyj, hdj⟩ := posts_get hx hlj
              have HY := hid hyj; clear hyj
              have HDJ := hid hdj; clear hdj
              have hyl := hid hy.len
              go_wp2
              · have h30 : (30 : Int) < m2 := by assumption
                have hr : Hid (greatB ls most = true) := hid (by
                  have e1 : wideAt y = true := by simp [wideAt, hyl.out]; omega
                  have e2 : greatRow x = true := by simp only [greatRow, any_hit hhj.out HDJ.out e1, Bool.or_true]
                  simp only [greatB, any_hit hh.out HD.out e2, Bool.or_true])
                go_ret
                exact ⟨by rw [hr.out]; rfl, rfl⟩
              · have h30 : (m2 : Int) ≤ 30 := by assumption
                exact ⟨⟨j + 1, by omega, by go_num, hid (any_on hhj.out HDJ.out (by simp [wideAt, hyl.out]; omega))⟩, by simp [intOf]; omega⟩
            · have hr : Hid (greatB ls most = true) := hid (by
                have e2 : greatRow x = true := by simp [greatRow, hxl.out]; omega
                simp only [greatB, any_hit hh.out HD.out e2, Bool.or_true])
              have h41 : (40 : Int) < m := by omega
              go_wp2
              go_ret
              exact ⟨by rw [hr.out]; rfl, rfl⟩
          · obtain rfl : j = m := by omega
            have hxw : x.any wideAt = false := by rw [hhj.out, List.drop_eq_nil_of_le (by rw [hxl.out]; omega)]; rfl
            have HXW := hid hxw; clear hxw
            by_cases h40 : j ≤ 40
            · have hr : Hid (greatRow x = false) := hid (by simp [greatRow, hxl.out, HXW.out]; omega)
              go_wp2
              exact ⟨⟨k + 1, by omega, by go_num, hid (any_on hh.out HD.out hr.out)⟩, by simp [intOf]; omega⟩
            · have hr : Hid (greatB ls most = true) := hid (by
                have e2 : greatRow x = true := by simp [greatRow, hxl.out]; omega
                simp only [greatB, any_hit hh.out HD.out e2, Bool.or_true])
              have h41 : (40 : Int) < j := by omega
              go_wp2
              go_ret
              exact ⟨by rw [hr.out]; rfl, rfl⟩
      · have hr : Hid (greatB ls most = true) := hid (by simp [greatB, hl.out]; omega)
        have h41 : most < (n : Int) := by omega
        go_wp2
        go_ret
        exact ⟨by rw [hr.out]; rfl, rfl⟩
    · obtain rfl : k = n := by omega
      have hr : Hid (greatB ls most = decide (most < (k : Int))) := hid (by rw [greatB, hh.out, List.drop_eq_nil_of_le (by rw [hl.out]; omega), hl.out]; simp)
      go_wp2
      go_ret
      exact ⟨by rw [hr.out]; rfl, rfl⟩
end Go.Proofs.Ytajggbekljohpaa
