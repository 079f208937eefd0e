/- Is one of several lists odd: post.odd. -/
import Derived.Test.YtajggbekljohpaaPostA
namespace Go.Proofs.Ytajggbekljohpaa
open Go.RowKit

def oddB (ls : List (List Post)) : Bool := ls.any (fun l => !mayB l)

theorem odd1_any (A : Option Addr) (n c : Nat) (ps : List Post) (w : World) (S : Nat → Prop) (hS : ∀ b, S b → b < w.heap.size) (hn : n ≤ 1048576) (hp : PostsAt w S A n ps) (hm : ∀ p ∈ ps, p.at_.length ≤ 1048576) :
    Calls Try.prog 34 #[.slice A n c] w fun e w' => e = .returned (.bool (!mayB ps)) ∧ Below w.heap.size w w' := by
  go_enter Try.func34, Try.ntmps34
  go_wp2_with (go_at_call 5; refine (may_any A n c ps _ S hS hn hp hm).mono ?_; rintro e w1 ⟨rfl, hb⟩)
  go_ret
  exact ⟨rfl, hb⟩

/-- an index that is not below 0 just where something is so -/
def IdxOf (b : Bool) (w : World) (e : Ending) (w' : World) : Prop := ∃ i : Int, e = .returned (.int .i64 i) ∧ decide (0 ≤ i) = b ∧ Below w.heap.size w w'

theorem any_on' {α : Type} {f : α → Bool} {l r t : List α} {x : α} (h : l.any f = t.any f) (hd : t = x :: r) (hf : f x = false) : l.any f = r.any f := by
  subst hd; rw [h]; simp [hf]
theorem any_hit' {α : Type} {f : α → Bool} {l r t : List α} {x : α} (h : l.any f = t.any f) (hd : t = x :: r) (hf : f x = true) : l.any f = true := by
  subst hd; rw [h]; simp [hf]

set_option maxHeartbeats 400000 in
theorem oddIdx_any (A : Option Addr) (n c : Nat) (ls : List (List Post)) (w : World) (S : Nat → Prop) (hS : ∀ b, S b → b < w.heap.size) (hn : n ≤ 1048576) (hp : RowsAt w S A n ls)
    (hm : ∀ l ∈ ls, l.length ≤ 1048576 ∧ ∀ p ∈ l, p.at_.length ≤ 1048576) :
    Calls Try.prog 44 #[.slice A n c, .func (.func 34) #[] #[]] w (IdxOf (oddB ls) w) := by
  have hl := hid hp.len
  go_enter Try.func44, Try.ntmps44
  go_wp2
  go_loopw [8] (fun i wr => ∃ k : Nat, k ≤ n ∧ i = .int .i64 k ∧ Below w.heap.size w wr ∧ Hid (ls.any (fun l => !mayB l) = (ls.drop k).any (fun l => !mayB l))) (fun i _ => n - (intOf i).toNat)
  case atStart => exact ⟨0, by omega, rfl, Below.refl _ _, hid rfl⟩
  case round =>
    obtain ⟨k, hk, rfl, hB, hh⟩ := hrel
    by_cases hlt : k < n
    · have hpk := rows_keep hp (Keep.of_below hB hS)
      obtain ⟨b, f, x, A', m, c', rfl, hb, c0, hmc, hx, hxk, hd⟩ := rows_get hpk hlt
      have HX := hid hxk; clear hxk
      have HD := hid hd; clear hd
      obtain ⟨hmx, hma⟩ := hm x (List.mem_of_getElem? HX.out)
      rw [hx.len] at hmx
      have hS' : ∀ b, S b → b < wr.heap.size := fun b hb => Nat.lt_of_lt_of_le (hS b hb) hB.size
      cases g : mayB x
      · have hr := hid (any_hit' hh.out HD.out (show (!mayB x) = true by rw [g]; rfl))
        go_wp2_with (go_at_call 34; refine (odd1_any A' m c' x _ S hS' hmx hx hma).mono ?_; rintro e w1 ⟨rfl, hb1⟩)
        go_ret
        exact ⟨k, rfl, by rw [oddB, hr.out]; simp, hB.trans (hb1.mono hB.size)⟩
      · have hr := hid (any_on' hh.out HD.out (show (!mayB x) = false by rw [g]; rfl))
        go_wp2_with (go_at_call 34; refine (odd1_any A' m c' x _ S hS' hmx hx hma).mono ?_; rintro e w1 ⟨rfl, hb1⟩)
        exact ⟨⟨k + 1, by omega, by go_num, hB.trans (hb1.mono hB.size), hr⟩, by simp [intOf]; omega⟩
    · obtain rfl : k = n := by omega
      have hr : Hid (oddB ls = false) := hid (by rw [oddB, hh.out, List.drop_eq_nil_of_le (by rw [hl.out]; omega)]; rfl)
      go_wp2
      go_ret
      exact ⟨-1, rfl, by rw [hr.out]; simp, hB⟩

theorem odd_any (A : Option Addr) (n c : Nat) (ls : List (List Post)) (w : World) (S : Nat → Prop) (hS : ∀ b, S b → b < w.heap.size) (hn : n ≤ 1048576) (hp : RowsAt w S A n ls)
    (hm : ∀ l ∈ ls, l.length ≤ 1048576 ∧ ∀ p ∈ l, p.at_.length ≤ 1048576) :
    Calls Try.prog 18 #[.slice A n c] w fun e w' => e = .returned (.bool (oddB ls)) ∧ Below w.heap.size w w' := by
  have hcf : Calls Try.prog 33 #[.slice A n c, .func (.func 34) #[] #[]] w fun e w' => e = .returned (.bool (oddB ls)) ∧ Below w.heap.size w w' := by
    go_enter Try.func33, Try.ntmps33
    go_wp2_with (go_at_call 44; refine (oddIdx_any A n c ls _ S hS hn hp hm).mono ?_; rintro e w1 ⟨i, rfl, hi, hb⟩)
    go_ret
    exact ⟨by rw [← hi]; rfl, hb⟩
  go_enter Try.func18, Try.ntmps18
  go_wp2_with (go_at_call 33; refine hcf.mono ?_; rintro e w1 ⟨rfl, hb⟩)
  go_ret
  exact ⟨rfl, hb⟩
end Go.Proofs.Ytajggbekljohpaa
