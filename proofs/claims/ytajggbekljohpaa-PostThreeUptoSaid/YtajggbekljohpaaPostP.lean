/- grapevinelaw10.PostThree answers true where it looks. -/
import Derived.Test.YtajggbekljohpaaPostO
namespace Go.Proofs.Ytajggbekljohpaa
open Go.RowKit

def RetN (n : Nat) (ks : List Key) (w : World) (e : Ending) (w' : World) : Prop := ∃ A c, e = .returned (.slice A n c) ∧ KL w' (.slice A n c) ks ∧ Below w.heap.size w w'
theorem retN_of {n : Nat} {ks : List Key} {w w' : World} {e : Ending} (h : RetKL ks w e w') (hn : ks.length = n) : RetN n ks w e w' := by subst hn; exact h

section
variable {x y z : Value} {a b c : List Post} {w : World}
set_option maxRecDepth 100000 in
set_option maxHeartbeats 6400000 in
theorem three_main (hx : PL w x a) (hy : PL w y b) (hz : PL w z c) (hs : skips a b c = false) :
    Calls Try.prog 3 #[x, y, z] w fun e w' => e = .returned (.bool true) ∧ Below w.heap.size w w' := by
  obtain ⟨A, n, cn, rfl⟩ := hx.shape
  obtain ⟨B, m, cm, rfl⟩ := hy.shape
  obtain ⟨C, l, cl, rfl⟩ := hz.shape
  have hg : greatB [a, b, c] 3 = false := by simp [skips] at hs; exact hs.1.1.1
  have ha : mayB a = true := by simp [skips] at hs; exact hs.1.1.2
  have hb : mayB b = true := by simp [skips] at hs; exact hs.1.2
  have hc : mayB c = true := by simp [skips] at hs; exact hs.2
  have hodd : oddB [a, b, c] = false := by simp [oddB, ha, hb, hc]
  have hlen := great_lens hg
  have la := hlen a (by simp)
  have lb := hlen b (by simp)
  have lc := hlen c (by simp)
  have t3 : total [a, b, c] ≤ 1048576 := by simp [total]; omega
  have t2 : total [a, b] ≤ 1048576 := by simp [total]; omega
  have t1 : total [c] ≤ 1048576 := by simp [total]; omega
  have l7 : (eachD (fun _ => true) [a, b, c]).length ≤ 1048576 := Nat.le_trans (each_len _ _ _) (by omega)
  have l9 : (eachD followB [a, b, c]).length ≤ 1048576 := Nat.le_trans (each_len _ _ _) (by omega)
  have l10 : (eachD (fun _ => true) [a, b]).length ≤ 1048576 := Nat.le_trans (each_len _ _ _) (by omega)
  have l11 : (eachD (fun _ => true) [b, c]).length ≤ 1048576 := Nat.le_trans (each_len _ _ _) (by omega)
  have l12 : (eachD followB [a, b]).length ≤ 1048576 := Nat.le_trans (each_len _ _ _) (by omega)
  have l13 : (eachD followB [b, c]).length ≤ 1048576 := Nat.le_trans (each_len _ _ _) (by omega)
  have l8 : (orD [a, b, c]).length ≤ 1048576 := Nat.le_trans (or_len _) t3
  have lab : (orD [a, b]).length ≤ 1048576 := Nat.le_trans (or_len _) t2
  have lc1 : (orD [c]).length ≤ 1048576 := Nat.le_trans (or_len _) t1
  clear hlen hs
  obtain ⟨n7, e7⟩ : ∃ k, (eachD (fun _ => true) [a, b, c]).length = k := ⟨_, rfl⟩
  obtain ⟨n10, e10⟩ : ∃ k, (eachD (fun _ => true) [a, b]).length = k := ⟨_, rfl⟩
  obtain ⟨n78, e78⟩ : ∃ k, (lessD (eachD (fun _ => true) [a, b]) (orD [c])).length = k := ⟨_, rfl⟩
  obtain ⟨nq, eq1⟩ : ∃ k, (lessD (orD [a, b, c]) (orD [a, b])).length = k := ⟨_, rfl⟩
  have eq2 : (lessD (orD [c]) (orD [a, b])).length = nq := by rw [← or_more hodd]; exact eq1
  have hcnt : IntKind.i64.wrap ((n10 : Int) - (n78 : Int)) = (n7 : Int) := by
    have := and_count hodd
    have h7 : n7 ≤ 1048576 := by omega
    rw [e7, e78, e10] at this
    simp [IntKind.wrap, IntKind.bits, IntKind.signed]; omega
  have hcnt2 : RowKit.wrap64 ((n10 : Int) - (n78 : Int)) = (n7 : Int) := by
    have := and_count hodd
    have h7 : n7 ≤ 1048576 := by omega
    rw [e7, e78, e10] at this
    unfold RowKit.wrap64; omega
  have hB : Below w.heap.size w w := Below.refl _ _
  have HB := hid hB; clear hB
  have La := hid (And.intro l7 (And.intro l8 (And.intro l9 (And.intro l10 (And.intro l11 (And.intro l12 (And.intro l13 (And.intro lab lc1))))))))
  have Ta := hid (And.intro t3 (And.intro t2 t1))
  have E7 := hid e7; have E10 := hid e10; have E78 := hid e78; have EQ1 := hid eq1; have EQ2 := hid eq2
  have HO := hid hodd
  clear l7 l8 l9 l10 l11 l12 l13 lab lc1 t1 t2 t3 la lb lc e7 e10 e78 eq1 eq2 hodd
  go_enter Try.func3, Try.ntmps3
  have st0 : True := trivial
  go_wp2_with (first
    | (clear st0; go_at_call 4; refine (c_great (row3_alloc hx hy hz) (by simp [go_sem]) (by simp)).mono ?_; rw [hg]; rintro e w1 ⟨rfl, rfl⟩
       have q := (Below.refl w.heap.size w).alloc (Nat.le_refl _) (.cells #[.slice A n cn, .slice B m cm, .slice C l cl] 22)
       replace hx := hx.keep q; replace hy := hy.keep q; replace hz := hz.keep q; replace HB := hid (HB.out.trans (q.mono HB.out.size)); (try replace k7 := k7.keep q); (try replace k8 := k8.keep q); (try replace k9 := k9.keep q); (try replace k10 := k10.keep q); (try replace k11 := k11.keep q); (try replace kab := kab.keep q); (try replace kc := kc.keep q); (try replace kp := kp.keep q); clear q; have st1 : True := trivial)
    | (clear st1; go_at_call 5; refine (c_may hx).mono ?_; rw [ha]; rintro e w2 ⟨rfl, q⟩
       replace hx := hx.keep q; replace hy := hy.keep q; replace hz := hz.keep q; replace HB := hid (HB.out.trans (q.mono HB.out.size)); (try replace k7 := k7.keep q); (try replace k8 := k8.keep q); (try replace k9 := k9.keep q); (try replace k10 := k10.keep q); (try replace k11 := k11.keep q); (try replace kab := kab.keep q); (try replace kc := kc.keep q); (try replace kp := kp.keep q); clear q; have st2 : True := trivial)
    | (clear st2; go_at_call 5; refine (c_may hy).mono ?_; rw [hb]; rintro e w2 ⟨rfl, q⟩
       replace hx := hx.keep q; replace hy := hy.keep q; replace hz := hz.keep q; replace HB := hid (HB.out.trans (q.mono HB.out.size)); (try replace k7 := k7.keep q); (try replace k8 := k8.keep q); (try replace k9 := k9.keep q); (try replace k10 := k10.keep q); (try replace k11 := k11.keep q); (try replace kab := kab.keep q); (try replace kc := kc.keep q); (try replace kp := kp.keep q); clear q; have st3 : True := trivial)
    | (clear st3; go_at_call 5; refine (c_may hz).mono ?_; rw [hc]; rintro e w2 ⟨rfl, q⟩
       replace hx := hx.keep q; replace hy := hy.keep q; replace hz := hz.keep q; replace HB := hid (HB.out.trans (q.mono HB.out.size)); (try replace k7 := k7.keep q); (try replace k8 := k8.keep q); (try replace k9 := k9.keep q); (try replace k10 := k10.keep q); (try replace k11 := k11.keep q); (try replace kab := kab.keep q); (try replace kc := kc.keep q); (try replace kp := kp.keep q); clear q; have st4 : True := trivial)
    | (clear st4; go_at_call 7; refine ((c_and (row3_alloc hx hy hz) (by simp [go_sem]) (by simp) (by simp)).mono fun _ _ h => retN_of h E7.out).mono ?_; rintro e w2 ⟨A2, c2, rfl, k7, q0⟩; have q := bl_al q0; clear q0
       replace hx := hx.keep q; replace hy := hy.keep q; replace hz := hz.keep q; replace HB := hid (HB.out.trans (q.mono HB.out.size)); (try replace k8 := k8.keep q); (try replace k9 := k9.keep q); (try replace k10 := k10.keep q); (try replace k11 := k11.keep q); (try replace kab := kab.keep q); (try replace kc := kc.keep q); (try replace kp := kp.keep q); clear q; have st5 : True := trivial)
    | (clear st5; go_at_call 8; refine (c_or (row3_alloc hx hy hz) (by simp [go_sem]) (by simp) Ta.out.1).mono ?_; rintro e w2 ⟨A2, c2, rfl, k8, q0⟩; have q := bl_al q0; clear q0
       replace hx := hx.keep q; replace hy := hy.keep q; replace hz := hz.keep q; replace HB := hid (HB.out.trans (q.mono HB.out.size)); (try replace k7 := k7.keep q); (try replace k9 := k9.keep q); (try replace k10 := k10.keep q); (try replace k11 := k11.keep q); (try replace kab := kab.keep q); (try replace kc := kc.keep q); (try replace kp := kp.keep q); clear q; have st6 : True := trivial)
    | (clear st6; go_at_call 9; refine (c_phrase (row3_alloc hx hy hz) (by simp [go_sem]) (by simp) (by simp)).mono ?_; rintro e w2 ⟨A2, c2, rfl, k9, q0⟩; have q := bl_al q0; clear q0
       replace hx := hx.keep q; replace hy := hy.keep q; replace hz := hz.keep q; replace HB := hid (HB.out.trans (q.mono HB.out.size)); (try replace k7 := k7.keep q); (try replace k8 := k8.keep q); (try replace k10 := k10.keep q); (try replace k11 := k11.keep q); (try replace kab := kab.keep q); (try replace kc := kc.keep q); (try replace kp := kp.keep q); clear q; have st7 : True := trivial)
    | (clear st7; go_at_call 7; refine ((c_and (row2_alloc hx hy) (by simp [go_sem]) (by simp) (by simp)).mono fun _ _ h => retN_of h E10.out).mono ?_; rintro e w2 ⟨A2, c2, rfl, k10, q0⟩; have q := bl_al q0; clear q0
       replace hx := hx.keep q; replace hy := hy.keep q; replace hz := hz.keep q; replace HB := hid (HB.out.trans (q.mono HB.out.size)); (try replace k7 := k7.keep q); (try replace k8 := k8.keep q); (try replace k9 := k9.keep q); (try replace k11 := k11.keep q); (try replace kab := kab.keep q); (try replace kc := kc.keep q); (try replace kp := kp.keep q); clear q; have st8 : True := trivial)
    | (clear st8; go_at_call 7; refine (c_and (row2_alloc hy hz) (by simp [go_sem]) (by simp) (by simp)).mono ?_; rintro e w2 ⟨A2, c2, rfl, k11, q0⟩; have q := bl_al q0; clear q0
       replace hx := hx.keep q; replace hy := hy.keep q; replace hz := hz.keep q; replace HB := hid (HB.out.trans (q.mono HB.out.size)); (try replace k7 := k7.keep q); (try replace k8 := k8.keep q); (try replace k9 := k9.keep q); (try replace k10 := k10.keep q); (try replace kab := kab.keep q); (try replace kc := kc.keep q); (try replace kp := kp.keep q); clear q; have st9 : True := trivial)
    | (clear st9; go_at_call 10; refine ((c_less k7 k10 La.out.1 La.out.2.2.2.1).mono fun _ _ h => retN_of h (show _ = 0 by rw [and_two HO.out]; rfl)).mono ?_; rintro e w2 ⟨A2, c2, rfl, _, q0⟩; have q := q0; clear q0
       replace hx := hx.keep q; replace hy := hy.keep q; replace hz := hz.keep q; replace HB := hid (HB.out.trans (q.mono HB.out.size)); (try replace k7 := k7.keep q); (try replace k8 := k8.keep q); (try replace k9 := k9.keep q); (try replace k10 := k10.keep q); (try replace k11 := k11.keep q); (try replace kab := kab.keep q); (try replace kc := kc.keep q); (try replace kp := kp.keep q); clear q; have st10 : True := trivial)
    | (clear st10; go_at_call 10; refine ((c_less k7 k11 La.out.1 La.out.2.2.2.2.1).mono fun _ _ h => retN_of h (show _ = 0 by rw [and_last HO.out]; rfl)).mono ?_; rintro e w2 ⟨A2, c2, rfl, _, q0⟩; have q := q0; clear q0
       replace hx := hx.keep q; replace hy := hy.keep q; replace hz := hz.keep q; replace HB := hid (HB.out.trans (q.mono HB.out.size)); (try replace k7 := k7.keep q); (try replace k8 := k8.keep q); (try replace k9 := k9.keep q); (try replace k10 := k10.keep q); (try replace k11 := k11.keep q); (try replace kab := kab.keep q); (try replace kc := kc.keep q); (try replace kp := kp.keep q); clear q; have st11 : True := trivial)
    | (clear st11; go_at_call 8; refine (c_or (row1_alloc hz) (by simp [go_sem]) (by simp) Ta.out.2.2).mono ?_; rintro e w2 ⟨A2, c2, rfl, kc, q0⟩; have q := bl_al q0; clear q0
       replace hx := hx.keep q; replace hy := hy.keep q; replace hz := hz.keep q; replace HB := hid (HB.out.trans (q.mono HB.out.size)); (try replace k7 := k7.keep q); (try replace k8 := k8.keep q); (try replace k9 := k9.keep q); (try replace k10 := k10.keep q); (try replace k11 := k11.keep q); (try replace kab := kab.keep q); (try replace kp := kp.keep q); clear q; have st12 : True := trivial)
    | (clear st12; go_at_call 10; refine ((c_less k10 kc La.out.2.2.2.1 La.out.2.2.2.2.2.2.2.2).mono fun _ _ h => retN_of h E78.out).mono ?_; rintro e w2 ⟨A2, c2, rfl, _, q0⟩; have q := q0; clear q0
       replace hx := hx.keep q; replace hy := hy.keep q; replace hz := hz.keep q; replace HB := hid (HB.out.trans (q.mono HB.out.size)); (try replace k7 := k7.keep q); (try replace k8 := k8.keep q); (try replace k9 := k9.keep q); (try replace k10 := k10.keep q); (try replace k11 := k11.keep q); (try replace kab := kab.keep q); (try replace kc := kc.keep q); (try replace kp := kp.keep q); clear q; have st13 : True := trivial)
    | (clear st13; go_at_call 8; refine (c_or (row2_alloc hx hy) (by simp [go_sem]) (by simp) Ta.out.2.1).mono ?_; rintro e w2 ⟨A2, c2, rfl, kab, q0⟩; have q := bl_al q0; clear q0
       replace hx := hx.keep q; replace hy := hy.keep q; replace hz := hz.keep q; replace HB := hid (HB.out.trans (q.mono HB.out.size)); (try replace k7 := k7.keep q); (try replace k8 := k8.keep q); (try replace k9 := k9.keep q); (try replace k10 := k10.keep q); (try replace k11 := k11.keep q); (try replace kc := kc.keep q); (try replace kp := kp.keep q); clear q; have st14 : True := trivial)
    | (clear st14; go_at_call 10; refine ((c_less kab k8 La.out.2.2.2.2.2.2.2.1 La.out.2.1).mono fun _ _ h => retN_of h (show _ = 0 by rw [or_in HO.out]; rfl)).mono ?_; rintro e w2 ⟨A2, c2, rfl, _, q0⟩; have q := q0; clear q0
       replace hx := hx.keep q; replace hy := hy.keep q; replace hz := hz.keep q; replace HB := hid (HB.out.trans (q.mono HB.out.size)); (try replace k7 := k7.keep q); (try replace k8 := k8.keep q); (try replace k9 := k9.keep q); (try replace k10 := k10.keep q); (try replace k11 := k11.keep q); (try replace kab := kab.keep q); (try replace kc := kc.keep q); (try replace kp := kp.keep q); clear q; have st15 : True := trivial)
    | (clear st15; go_at_call 8; refine (c_or (row2_alloc hx hy) (by simp [go_sem]) (by simp) Ta.out.2.1).mono ?_; rintro e w2 ⟨A2, c2, rfl, kab, q0⟩; have q := bl_al q0; clear q0
       replace hx := hx.keep q; replace hy := hy.keep q; replace hz := hz.keep q; replace HB := hid (HB.out.trans (q.mono HB.out.size)); (try replace k7 := k7.keep q); (try replace k8 := k8.keep q); (try replace k9 := k9.keep q); (try replace k10 := k10.keep q); (try replace k11 := k11.keep q); (try replace kc := kc.keep q); (try replace kp := kp.keep q); clear q; have st16 : True := trivial)
    | (clear st16; go_at_call 10; refine ((c_less k8 kab La.out.2.1 La.out.2.2.2.2.2.2.2.1).mono fun _ _ h => retN_of h EQ1.out).mono ?_; rintro e w2 ⟨A2, c2, rfl, _, q0⟩; have q := q0; clear q0
       replace hx := hx.keep q; replace hy := hy.keep q; replace hz := hz.keep q; replace HB := hid (HB.out.trans (q.mono HB.out.size)); (try replace k7 := k7.keep q); (try replace k8 := k8.keep q); (try replace k9 := k9.keep q); (try replace k10 := k10.keep q); (try replace k11 := k11.keep q); (try replace kab := kab.keep q); (try replace kc := kc.keep q); (try replace kp := kp.keep q); clear q; have st17 : True := trivial)
    | (clear st17; go_at_call 8; refine (c_or (row1_alloc hz) (by simp [go_sem]) (by simp) Ta.out.2.2).mono ?_; rintro e w2 ⟨A2, c2, rfl, kc, q0⟩; have q := bl_al q0; clear q0
       replace hx := hx.keep q; replace hy := hy.keep q; replace hz := hz.keep q; replace HB := hid (HB.out.trans (q.mono HB.out.size)); (try replace k7 := k7.keep q); (try replace k8 := k8.keep q); (try replace k9 := k9.keep q); (try replace k10 := k10.keep q); (try replace k11 := k11.keep q); (try replace kab := kab.keep q); (try replace kp := kp.keep q); clear q; have st18 : True := trivial)
    | (clear st18; go_at_call 8; refine (c_or (row2_alloc hx hy) (by simp [go_sem]) (by simp) Ta.out.2.1).mono ?_; rintro e w2 ⟨A2, c2, rfl, kab, q0⟩; have q := bl_al q0; clear q0
       replace hx := hx.keep q; replace hy := hy.keep q; replace hz := hz.keep q; replace HB := hid (HB.out.trans (q.mono HB.out.size)); (try replace k7 := k7.keep q); (try replace k8 := k8.keep q); (try replace k9 := k9.keep q); (try replace k10 := k10.keep q); (try replace k11 := k11.keep q); (try replace kc := kc.keep q); (try replace kp := kp.keep q); clear q; have st19 : True := trivial)
    | (clear st19; go_at_call 10; refine ((c_less kc kab La.out.2.2.2.2.2.2.2.2 La.out.2.2.2.2.2.2.2.1).mono fun _ _ h => retN_of h EQ2.out).mono ?_; rintro e w2 ⟨A2, c2, rfl, _, q0⟩; have q := q0; clear q0
       replace hx := hx.keep q; replace hy := hy.keep q; replace hz := hz.keep q; replace HB := hid (HB.out.trans (q.mono HB.out.size)); (try replace k7 := k7.keep q); (try replace k8 := k8.keep q); (try replace k9 := k9.keep q); (try replace k10 := k10.keep q); (try replace k11 := k11.keep q); (try replace kab := kab.keep q); (try replace kc := kc.keep q); (try replace kp := kp.keep q); clear q; have st20 : True := trivial)
    | (clear st20; go_at_call 9; refine (c_phrase (row2_alloc hx hy) (by simp [go_sem]) (by simp) (by simp)).mono ?_; rintro e w2 ⟨A2, c2, rfl, kp, q0⟩; have q := bl_al q0; clear q0
       replace hx := hx.keep q; replace hy := hy.keep q; replace hz := hz.keep q; replace HB := hid (HB.out.trans (q.mono HB.out.size)); (try replace k7 := k7.keep q); (try replace k8 := k8.keep q); (try replace k9 := k9.keep q); (try replace k10 := k10.keep q); (try replace k11 := k11.keep q); (try replace kab := kab.keep q); (try replace kc := kc.keep q); clear q; have st21 : True := trivial)
    | (clear st21; go_at_call 10; refine ((c_less k9 kp La.out.2.2.1 La.out.2.2.2.2.2.1).mono fun _ _ h => retN_of h (show _ = 0 by rw [phrase_two HO.out]; rfl)).mono ?_; rintro e w2 ⟨A2, c2, rfl, _, q0⟩; have q := q0; clear q0
       replace hx := hx.keep q; replace hy := hy.keep q; replace hz := hz.keep q; replace HB := hid (HB.out.trans (q.mono HB.out.size)); (try replace k7 := k7.keep q); (try replace k8 := k8.keep q); (try replace k9 := k9.keep q); (try replace k10 := k10.keep q); (try replace k11 := k11.keep q); (try replace kab := kab.keep q); (try replace kc := kc.keep q); (try replace kp := kp.keep q); clear q; have st22 : True := trivial)
    | (clear st22; go_at_call 9; refine (c_phrase (row2_alloc hy hz) (by simp [go_sem]) (by simp) (by simp)).mono ?_; rintro e w2 ⟨A2, c2, rfl, kp, q0⟩; have q := bl_al q0; clear q0
       replace hx := hx.keep q; replace hy := hy.keep q; replace hz := hz.keep q; replace HB := hid (HB.out.trans (q.mono HB.out.size)); (try replace k7 := k7.keep q); (try replace k8 := k8.keep q); (try replace k9 := k9.keep q); (try replace k10 := k10.keep q); (try replace k11 := k11.keep q); (try replace kab := kab.keep q); (try replace kc := kc.keep q); clear q; have st23 : True := trivial)
    | (clear st23; go_at_call 10; refine ((c_less k9 kp La.out.2.2.1 La.out.2.2.2.2.2.2.1).mono fun _ _ h => retN_of h (show _ = 0 by rw [phrase_last HO.out]; rfl)).mono ?_; rintro e w2 ⟨A2, c2, rfl, _, q0⟩; have q := q0; clear q0
       replace hx := hx.keep q; replace hy := hy.keep q; replace hz := hz.keep q; replace HB := hid (HB.out.trans (q.mono HB.out.size)); (try replace k7 := k7.keep q); (try replace k8 := k8.keep q); (try replace k9 := k9.keep q); (try replace k10 := k10.keep q); (try replace k11 := k11.keep q); (try replace kab := kab.keep q); (try replace kc := kc.keep q); (try replace kp := kp.keep q); clear q; have st24 : True := trivial)
    | (clear st24; go_at_call 10; refine ((c_less k9 k7 La.out.2.2.1 La.out.1).mono fun _ _ h => retN_of h (show _ = 0 by rw [phrase_and HO.out]; rfl)).mono ?_; rintro e w2 ⟨A2, c2, rfl, _, q0⟩; have q := q0; clear q0
       replace hx := hx.keep q; replace hy := hy.keep q; replace hz := hz.keep q; replace HB := hid (HB.out.trans (q.mono HB.out.size)); (try replace k7 := k7.keep q); (try replace k8 := k8.keep q); (try replace k9 := k9.keep q); (try replace k10 := k10.keep q); (try replace k11 := k11.keep q); (try replace kab := kab.keep q); (try replace kc := kc.keep q); (try replace kp := kp.keep q); clear q; have st25 : True := trivial)
    | (clear st25; go_at_call 6; refine (awake_any _).mono ?_; rintro e w2 ⟨rfl, q⟩; replace HB := hid (HB.out.trans (q.mono HB.out.size)); clear q; have st26 : True := trivial))
  go_ret
  exact ⟨rfl, HB.out⟩

/-- WHATEVER THE THREE LISTS: true. -/
theorem three_any (hx : PL w x a) (hy : PL w y b) (hz : PL w z c) :
    Calls Try.prog 3 #[x, y, z] w fun e w' => e = .returned (.bool true) ∧ Below w.heap.size w w' := by
  cases hs : skips a b c
  · exact three_main hx hy hz hs
  · exact three_skips hx hy hz hs
end
end Go.Proofs.Ytajggbekljohpaa
