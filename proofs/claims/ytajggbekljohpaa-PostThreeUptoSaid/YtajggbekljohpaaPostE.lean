/- Keys without others: slices.Index, slices.Contains at keys, post.Less; grapevinelaw0.SameKeys. -/
import Derived.Test.YtajggbekljohpaaPostA
import Derived.Maps.AppendAt
import Derived.OwnWalk
namespace Go.Proofs.Ytajggbekljohpaa
open Go.RowKit

def keyCells (ks : List Key) : List Value := ks.flatMap fun k => [.int .i64 k.o, .int .i64 k.s]
theorem keyCells_snoc (ks : List Key) (k : Key) : keyCells (ks ++ [k]) = keyCells ks ++ [.int .i64 k.o, .int .i64 k.s] := by simp [keyCells]
theorem keyInfo : (Try.prog.info? 32).map (fun i => (i.zero, i.size, i.bytes)) = some (some (.agg #[.int .i64 0, .int .i64 0]), 2, 16) := by kernel_rfl
/-- a row of keys of the call's own -/
def OwnKeys (w : World) (base : Nat) (v : Value) (ks : List Key) : Prop := w.ownsRow base 32 2 v ks.length (keyCells ks)
/-- a call answers keys in memory of its own -/
def RetKeys (ks : List Key) (w : World) (e : Ending) (w' : World) : Prop := ∃ v, e = .returned v ∧ OwnKeys w' w.heap.size v ks ∧ Below w.heap.size w w'

/-- an index that is not below 0 just where something is so -/
def IdxIn (b : Bool) (w : World) (e : Ending) (w' : World) : Prop := ∃ i : Int, e = .returned (.int .i64 i) ∧ decide (0 ≤ i) = b ∧ Below w.heap.size w w'
theorem keyHeld : Try.prog.stoodInHeld 32 = false := by kernel_rfl
theorem keyGuard : Try.prog.eqGuardType Try.prog.depth 32 = false := by kernel_rfl
theorem keyUnd : Try.prog.underlying 32 = some (.struct (Try.prog.fieldsOf 32)) := by kernel_rfl
theorem key_beq (a b : Key) : (a == b) = (a.o == b.o && a.s == b.s) := by
  obtain ⟨x, y⟩ := a; obtain ⟨z, u⟩ := b
  rw [Bool.eq_iff_iff]; simp
theorem run_eq_key (a b : Key) (w : World) : (binOp .eql 32 (.agg #[.int .i64 a.o, .int .i64 a.s]) (.agg #[.int .i64 b.o, .int .i64 b.s])).run Try.prog w = .ok (.bool (a == b)) w := by
  have h1 := keyHeld
  have h3 := keyUnd
  simp [go_sem, h1]
  rw [key_beq]
  by_cases e : a.o = b.o <;> by_cases e' : a.s = b.s <;> simp [e, e']
theorem run_ne_key (a b : Key) (w : World) : (binOp .neq 32 (.agg #[.int .i64 a.o, .int .i64 a.s]) (.agg #[.int .i64 b.o, .int .i64 b.s])).run Try.prog w = .ok (.bool (!(a == b))) w := by
  have h1 := keyHeld
  have h3 := keyUnd
  simp [go_sem, h1]
  rw [key_beq]
  by_cases e : a.o = b.o <;> by_cases e' : a.s = b.s <;> simp [e, e']

set_option maxHeartbeats 400000 in
theorem index_any (A : Option Addr) (n c : Nat) (ks : List Key) (k : Key) (w : World) (S : Nat → Prop) (hS : ∀ b, S b → b < w.heap.size) (hn : n ≤ 1048576) (hp : KeysAt w S A n ks) :
    Calls Try.prog 40 #[.slice A n c, .agg #[.int .i64 k.o, .int .i64 k.s]] w (IdxIn (ks.contains k) w) := by
  have hl := hid hp.len
  have hgu := keyGuard
  go_enter Try.func40, Try.ntmps40
  go_wp2
  go_loopw [8] (fun i wr => ∃ j : Nat, j ≤ n ∧ i = .int .i64 j ∧ Below (w.heap.size + 1) (w.alloc (.cells #[.int .i64 k.o, .int .i64 k.s] 32)) wr ∧ Hid (ks.contains k = (ks.drop j).contains k)) (fun i _ => n - (intOf i).toNat)
  case atStart => exact ⟨0, by omega, rfl, Below.refl _ _, hid rfl⟩
  case round =>
    obtain ⟨j, hj, rfl, hB, hh⟩ := hrel
    have hsz := hB.size
    have hz1 : w.heap.size < wr.heap.size := by simp at hsz; omega
    have hBw : Below w.heap.size w wr := ((Below.refl _ _).alloc (Nat.le_refl _) _).trans (hB.mono (by omega))
    by_cases hlt : j < n
    · have hpk := keys_keep hp (Keep.of_below hBw hS)
      have e0 : wr.cell? ⟨w.heap.size, 0, none⟩ = some (.int .i64 k.o) := by rw [hB.cell (p := ⟨w.heap.size, 0, none⟩) (by simp)]; simp [go_sem]
      have e1 : wr.cell? ⟨w.heap.size, 1, none⟩ = some (.int .i64 k.s) := by rw [hB.cell (p := ⟨w.heap.size, 1, none⟩) (by simp)]; simp [go_sem]
      obtain ⟨b, f, x, rfl, hb, c0, c1, hxk, hd⟩ := keys_get hpk hlt
      have HD := hid hd; clear hd hxk
      have i1 : (0 : Int) ≤ j := by omega
      have i2 : (j : Int) < (n : Int) := by omega
      have hq := fun w => run_eq_key k x w
      cases g : k == x
      · rw [g] at hq
        go_wp2
        go_quiet (fail)
        go_wp2
        exact ⟨⟨j + 1, by omega, by go_num, bl_drewN hB _, hid (by rw [hh.out, HD.out, List.contains_cons, g]; rfl)⟩, by simp [intOf]; omega⟩
      · rw [g] at hq
        go_wp2
        go_quiet (fail)
        go_wp2
        go_ret
        exact ⟨j, rfl, by rw [hh.out, HD.out, List.contains_cons, g]; simp, (bl_drewN hBw _)⟩
    · obtain rfl : j = n := by omega
      have hr : Hid (ks.contains k = false) := hid (by rw [hh.out, List.drop_eq_nil_of_le (by rw [hl.out]; omega)]; rfl)
      go_wp2
      go_ret
      exact ⟨-1, rfl, by rw [hr.out]; simp, hBw⟩

theorem contains_any (A : Option Addr) (n c : Nat) (ks : List Key) (k : Key) (w : World) (S : Nat → Prop) (hS : ∀ b, S b → b < w.heap.size) (hn : n ≤ 1048576) (hp : KeysAt w S A n ks) :
    Calls Try.prog 24 #[.slice A n c, .agg #[.int .i64 k.o, .int .i64 k.s]] w fun e w' => e = .returned (.bool (ks.contains k)) ∧ Below w.heap.size w w' := by
  have hS' : ∀ b, S b → b < (w.alloc (.cells #[.int .i64 k.o, .int .i64 k.s] 32)).heap.size := fun b hb => by have := hS b hb; simp; omega
  have hp' := keys_keep hp ((Keep.refl S w).alloc hS (.cells #[.int .i64 k.o, .int .i64 k.s] 32))
  go_enter Try.func24, Try.ntmps24
  go_wp2_with (go_at_call 40; refine (index_any A n c ks k _ S hS' hn hp').mono ?_; rintro e w1 ⟨i, rfl, hi, hb⟩; have HI := hid hi; clear hi)
  go_ret
  exact ⟨by rw [← HI.out]; rfl, ((Below.refl _ _).alloc (Nat.le_refl _) _).trans (hb.mono (by simp))⟩

set_option maxHeartbeats 400000 in
theorem sameKeys_any (A B : Option Addr) (n m c d : Nat) (ks js : List Key) (w : World) (S T : Nat → Prop) (hn : n ≤ 1048576) (hm : m ≤ 1048576) (hp : KeysAt w S A n ks) (hj : KeysAt w T B m js) :
    Calls Try.prog 13 #[.slice A n c, .slice B m d] w fun e w' => e = .returned (.bool (ks == js)) ∧ ∃ q, w' = w.drewN q := by
  have hl := hid hp.len
  have hl2 := hid hj.len
  have hgu := keyGuard
  by_cases hnm : n = m
  · subst hnm
    go_enter Try.func13, Try.ntmps13
    go_wp2
    go_loopw [5] (fun i wr => ∃ k : Nat, k ≤ n ∧ i = .int .i64 k ∧ (∃ q, wr = w.drewN q) ∧ Hid ((ks == js) = (ks.drop k == js.drop k))) (fun i _ => n - (intOf i).toNat)
    case atStart => exact ⟨0, by omega, rfl, ⟨0, rfl⟩, hid rfl⟩
    case round =>
      obtain ⟨k, hk, rfl, ⟨q, rfl⟩, hh⟩ := hrel
      by_cases hlt : k < n
      · obtain ⟨b, f, x, rfl, hb, c0, c1, hxk, hd⟩ := keys_get hp hlt
        obtain ⟨b2, f2, y, rfl, hb2, d0, d1, hyk, hd2⟩ := keys_get hj hlt
        have HD := hid hd; clear hd hxk
        have HD2 := hid hd2; clear hd2 hyk
        have i1 : (0 : Int) ≤ k := by omega
        have i2 : (k : Int) < (n : Int) := by omega
        have hq := fun w => run_ne_key x y w
        cases g : x == y
        · rw [g] at hq
          have hr : Hid ((ks == js) = false) := hid (by rw [hh.out, HD.out, HD2.out]; show (x :: _ == y :: _) = false; simp only [List.cons_beq_cons, g, Bool.false_and])
          go_wp2
          go_quiet (fail)
          go_wp2
          go_ret
          exact ⟨by rw [hr.out]; rfl, ⟨q + nq, by first | rfl | rw [World.drewN_drewN]⟩⟩
        · rw [g] at hq
          go_wp2
          go_quiet (fail)
          go_wp2
          exact ⟨⟨k + 1, by omega, by go_num, ⟨q + nq, by first | rfl | rw [World.drewN_drewN]⟩, hid (by rw [hh.out, HD.out, HD2.out]; simp only [List.cons_beq_cons, g, Bool.true_and])⟩, by simp [intOf]; omega⟩
      · obtain rfl : k = n := by omega
        have hr : Hid ((ks == js) = true) := hid (by rw [hh.out, List.drop_eq_nil_of_le (by rw [hl.out]; omega), List.drop_eq_nil_of_le (by rw [hl2.out]; omega)]; rfl)
        go_wp2
        go_ret
        exact ⟨by rw [hr.out]; rfl, ⟨q, rfl⟩⟩
  · have hr : Hid ((ks == js) = false) := hid (by
      rw [beq_eq_false_iff_ne]; rintro rfl; exact hnm (by rw [← hl.out, ← hl2.out]))
    have h2 : ((n : Int) != (m : Int)) = true := by rw [bne_iff_ne]; omega
    go_enter Try.func13, Try.ntmps13
    go_wp2
    go_ret
    exact ⟨by rw [hr.out]; rfl, ⟨0, rfl⟩⟩

/-- keys without others -/
def lessD (all some_ : List Key) : List Key := all.filter fun k => !some_.contains k
theorem less_step {all some_ m r t : List Key} {x : Key} (h : lessD all some_ = m ++ lessD t some_) (hd : t = x :: r) :
    lessD all some_ = (if some_.contains x then m else m ++ [x]) ++ lessD r some_ := by
  subst hd; rw [h]
  cases g : some_.contains x
  · simp only [lessD, List.filter_cons, g, Bool.not_false, if_true, Bool.false_eq_true, if_false, List.append_assoc, List.singleton_append]
  · simp only [lessD, List.filter_cons, g, Bool.not_true, Bool.false_eq_true, if_false, if_true]

set_option maxHeartbeats 800000 in
theorem less_any (A B : Option Addr) (n m c d : Nat) (ks js : List Key) (w : World) (S : Nat → Prop) (hS : ∀ b, S b → b < w.heap.size) (hn : n ≤ 1048576) (hm : m ≤ 1048576) (hp : KeysAt w S A n ks) (hj : KeysAt w S B m js) :
    Calls Try.prog 10 #[.slice A n c, .slice B m d] w (RetKeys (lessD ks js) w) := by
  have hl := hid hp.len
  obtain ⟨i0, hi0, hz0, hz1, hz2⟩ := info_parts keyInfo
  go_enter Try.func10, Try.ntmps10
  go_wp2
  go_loopw [5, 10] (fun v i wr => ∃ (k : Nat) (out : List Key), k ≤ n ∧ i = .int .i64 k ∧ out.length ≤ k ∧ OwnKeys wr w.heap.size v out ∧ Below w.heap.size w wr ∧ Hid (lessD ks js = out ++ lessD (ks.drop k) js)) (fun _ i _ => n - (intOf i).toNat)
  case atStart => exact ⟨0, [], by omega, rfl, by simp, World.ownsRow_nil _ _ _ _, Below.refl _ _, hid rfl⟩
  case round =>
    obtain ⟨k, out, hk, rfl, hol, hown, hB, hh⟩ := hrel
    by_cases hlt : k < n
    · have hpk := keys_keep hp (Keep.of_below hB hS)
      have hjk := keys_keep hj (Keep.of_below hB hS)
      have hS' : ∀ b, S b → b < wr.heap.size := fun b hb => Nat.lt_of_lt_of_le (hS b hb) hB.size
      obtain ⟨b, f, x, rfl, hb, c0, c1, hxk, hd⟩ := keys_get hpk hlt
      have HD := hid hd; clear hd hxk
      have hst := hid (less_step hh.out HD.out)
      have hS2 : ∀ b, S b → b < (wr.alloc (.cells #[.int .i64 x.o, .int .i64 x.s] 32)).heap.size := fun b hb => by have := hS' b hb; simp; omega
      have hj2 := keys_keep hjk ((Keep.refl S wr).alloc hS' (.cells #[.int .i64 x.o, .int .i64 x.s] 32))
      unfold OwnKeys at hown
      cases g : js.contains x
      · rw [g] at hst
        have h3 : out.length + 1 ≤ maxLen := by unfold maxLen; omega
        have h4 : (out.length + 1) * 16 ≤ 140737488355328 := by omega
        go_wp2_with (first
          | (go_at_call 24; refine (contains_any B m d js x _ S hS2 hm hj2).mono ?_; rw [g]; rintro e w1 ⟨rfl, hb1⟩; obtain ⟨hc, hf⟩ := bcell hb1
             have hs1 : w.heap.size ≤ (w1.alloc (.cells #[.int .i64 x.o, .int .i64 x.s] 32)).heap.size := by have := hb1.size; have := hB.size; simp at *; omega)
          | (at_builtin
             refine wpList_append_own _ rfl _ _ 27 rfl w.heap.size 32 i0 _ 2 16 Try.underlying27 hi0 hz0 hz1 hz2 rfl (by decide) _ _ _ rfl ((own_below (hown.alloc _) hb1).alloc _) ⟨w1.heap.size, 0, none⟩ 1 1 [.int .i64 x.o, .int .i64 x.s] rfl rfl (cells_new w1 _ _) (ones2 _ _) h3 h4 hs1 ?_
             intro v1 w2 hown1 hg1 hiff1
             clear hiff1))
        refine ⟨⟨k + 1, out ++ [x], by omega, by go_num, by simp; omega, ?_, ?_, hst⟩, by simp [intOf]; omega⟩
        · unfold OwnKeys
          rw [keyCells_snoc, List.length_append]
          exact hown1
        · have h5 : Below w.heap.size w w1 := (hB.alloc hB.size _).trans (hb1.mono (by have := hB.size; simp; omega))
          exact (h5.alloc h5.size _).grown hg1 (by simpa using hs1) (fun k hk => (hown.lt k hk).1)
      · rw [g] at hst
        go_wp2_with (go_at_call 24; refine (contains_any B m d js x _ S hS2 hm hj2).mono ?_; rw [g]; rintro e w1 ⟨rfl, hb1⟩; obtain ⟨hc, hf⟩ := bcell hb1)
        refine ⟨⟨k + 1, out, by omega, by go_num, by omega, own_below (hown.alloc _) hb1, ?_, hst⟩, by simp [intOf]; omega⟩
        exact (hB.alloc hB.size _).trans (hb1.mono (by have := hB.size; simp; omega))
    · obtain rfl : k = n := by omega
      go_wp2
      go_ret
      refine ⟨u5, rfl, ?_, hB⟩
      rw [hh.out, List.drop_eq_nil_of_le (by rw [hl.out]; omega)]
      simpa [lessD] using hown
end Go.Proofs.Ytajggbekljohpaa
