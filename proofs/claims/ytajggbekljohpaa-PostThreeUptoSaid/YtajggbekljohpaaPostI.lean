/- Keys each once: slices.Compact at keys. -/
import Derived.Test.YtajggbekljohpaaPostH
import Derived.Test.YtajggbekljohpaaPostD
namespace Go.Proofs.Ytajggbekljohpaa
open Go.RowKit

def dedupFrom (last : Key) : List Key → List Key
  | [] => []
  | x :: r => if x == last then dedupFrom last r else x :: dedupFrom x r
/-- what follows itself is left out -/
def dedupD : List Key → List Key
  | [] => []
  | x :: r => x :: dedupFrom x r
theorem keyCells_length (ks : List Key) : (keyCells ks).length = ks.length * 2 := by
  induction ks with
  | nil => rfl
  | cons q r ih => simp [keyCells] at *; omega
theorem keyCells_set (ks : List Key) (i : Nat) (x : Key) (h : i < ks.length) : ((keyCells ks).set (i * 2) (.int .i64 x.o)).set (i * 2 + 1) (.int .i64 x.s) = keyCells (ks.set i x) := by
  induction ks generalizing i with
  | nil => simp at h
  | cons q r ih =>
    cases i with
    | zero => rfl
    | succ i =>
      have := ih i (by simpa using h)
      have e1 : (i + 1) * 2 = i * 2 + 2 := by omega
      show (([Value.int .i64 q.o, .int .i64 q.s] ++ keyCells r).set ((i + 1) * 2) _).set ((i + 1) * 2 + 1) _ = [Value.int .i64 q.o, .int .i64 q.s] ++ keyCells (r.set i x)
      rw [← this, e1]
      rfl
theorem keyCells_get (ks : List Key) (k : Nat) (x : Key) (h : ks[k]? = some x) : (keyCells ks)[k * 2]? = some (.int .i64 x.o) ∧ (keyCells ks)[k * 2 + 1]? = some (.int .i64 x.s) := by
  induction ks generalizing k with
  | nil => simp at h
  | cons q r ih =>
    cases k with
    | zero => simp at h; subst h; exact ⟨rfl, rfl⟩
    | succ k =>
      have := ih k (by simpa using h)
      have e1 : (k + 1) * 2 = k * 2 + 1 + 1 := by omega
      rw [e1]
      exact this
/-- a row of the call's own reads as_ its keys -/
theorem own_keys_at {w : World} {base : Nat} {v : Value} {ks : List Key} (h : OwnKeys w base v ks) (hne : 0 < ks.length) :
    ∃ g cap, v = .slice (some ⟨g, 0, none⟩) ks.length cap ∧ ks.length ≤ cap ∧ cap ≤ maxLen ∧ base ≤ g ∧ g < w.heap.size ∧ (∀ j, w.frozen? ⟨g, j, none⟩ = false) ∧ KeysAt w (fun b => b = g) (some ⟨g, 0, none⟩) ks.length ks := by
  obtain ⟨hl, hr⟩ := h
  rcases hr with ⟨_, h0⟩ | ⟨g, cap, cur, hv, hb, hh, hnc, hcm, hcs, htk⟩
  · omega
  · have hg : g < w.heap.size := by
      rcases Nat.lt_or_ge g w.heap.size with h1 | h1
      · exact h1
      · rw [Array.getElem?_eq_none h1] at hh; cases hh
    refine ⟨g, cap, hv, hnc, hcm, hb, hg, fun j => by simp [World.frozen?, hh], rfl, fun _ => ⟨g, 0, rfl, rfl, fun k x hx => ⟨[.int .i64 x.o, .int .i64 x.s], rfl, fun j u hu => ?_, rfl⟩⟩⟩
    have hk : k < ks.length := (List.getElem?_eq_some_iff.1 hx).1
    have hc := keyCells_get ks k x hx
    have hget : ∀ i u, (keyCells ks)[i]? = some u → i < ks.length * 2 → w.cell? ⟨g, i, none⟩ = some u := fun i u h1 h2 => by
      rw [← htk, List.getElem?_take_of_lt h2] at h1
      rw [World.cell?, hh]
      simpa using h1
    match j with
    | 0 => simp at hu; subst hu; rw [Nat.zero_add]; exact hget _ _ hc.1 (by omega)
    | 1 => simp at hu; subst hu; rw [Nat.zero_add]; exact hget _ _ hc.2 (by omega)
    | j + 2 => simp at hu
/-- a store of a key into such a row -/
theorem own_set {w : World} {base : Nat} {g n cap i : Nat} {ks : List Key} (h : w.ownsRow base 32 2 (.slice (some ⟨g, 0, none⟩) n cap) n (keyCells ks)) (hn : ks.length = n) (hi : i < n) (x : Key) :
    ((w.setCell ⟨g, i * 2, none⟩ (.int .i64 x.o)).setCell ⟨g, i * 2 + 1, none⟩ (.int .i64 x.s)).ownsRow base 32 2 (.slice (some ⟨g, 0, none⟩) n cap) n (keyCells (ks.set i x)) := by
  rw [← keyCells_set ks i x (by omega)]
  exact ((h.stored (i * 2) _).1.stored (i * 2 + 1) _).1
theorem keyCells_take (ks : List Key) (k : Nat) : (keyCells ks).take (k * 2) = keyCells (ks.take k) := by
  induction ks generalizing k with
  | nil => simp [keyCells]
  | cons q r ih =>
    cases k with
    | zero => simp [keyCells]
    | succ k =>
      have := ih k
      have e1 : (k + 1) * 2 = k * 2 + 2 := by omega
      rw [e1]
      show (([Value.int .i64 q.o, .int .i64 q.s] ++ keyCells r)).take (k * 2 + 2) = [Value.int .i64 q.o, .int .i64 q.s] ++ keyCells (r.take k)
      rw [← this]
      rfl
/-- clear(s[k:]), s a row of keys of the call's own -/
theorem own_clear {w : World} {base g n cap k : Nat} {ks : List Key} (h : w.ownsRow base 32 2 (.slice (some ⟨g, 0, none⟩) n cap) n (keyCells ks)) (hl : ks.length = n) (hk : k < n) :
    ∃ w', (∀ ty c, (Builtin.clear_ #[27] ty #[.slice (some ⟨g, k * 2, none⟩) (n - k) c]).run Try.prog w = .ok (.tuple #[]) w') ∧
      w'.ownsRow base 32 2 (.slice (some ⟨g, 0, none⟩) k cap) k (keyCells (ks.take k)) ∧ w.grownBy w' (some g) := by
  rcases h.2 with ⟨h0, _⟩ | ⟨g', cap', cur, hv, hb, hh, h1, h2, h3, h4⟩
  · cases h0
  · cases hv
    have hzl : ∀ m, (Builtin.zeroCells (Value.agg #[.int .i64 0, .int .i64 0]).cells m).size = m * 2 := fun m => size_zeroCells _ m
    have hz1 : ∀ m, ∀ v ∈ (Builtin.zeroCells (Value.agg #[.int .i64 0, .int .i64 0]).cells m).toList, v.oneCell' = true := by
      intro m v hv
      simp only [Builtin.zeroCells, Value.cells, Array.toList_map, List.mem_map] at hv
      obtain ⟨i, _, rfl⟩ := hv
      have : i % 2 = 0 ∨ i % 2 = 1 := by omega
      rcases this with e | e <;> simp [e, Value.oneCell']
    have hfit : k * 2 + 0 + (Builtin.zeroCells (Value.agg #[.int .i64 0, .int .i64 0]).cells (n - k)).toList.length ≤ cur.size := by
      rw [Array.length_toList, hzl, h3]; omega
    have hst := run_storeCells_at Try.prog g (k * 2) 32 (Builtin.zeroCells (Value.agg #[.int .i64 0, .int .i64 0]).cells (n - k)).toList 0 cur w hh hfit (hz1 _)
    generalize hZ : (Builtin.zeroCells (Value.agg #[.int .i64 0, .int .i64 0]).cells (n - k)).toList = Z at hst hfit
    have hZl : Z.length = (n - k) * 2 := by rw [← hZ, Array.length_toList, hzl]
    simp only [Nat.add_zero] at hst hfit
    have hrow := setRow_heap w g cur (List.take (k * 2) cur.toList ++ Z ++ List.drop (k * 2 + Z.length) cur.toList).toArray _ _ hh
    refine ⟨w.setRow g (List.take (k * 2) cur.toList ++ Z ++ List.drop (k * 2 + Z.length) cur.toList).toArray, fun ty c => ?_, ⟨?_, .inr ⟨g, cap, _, rfl, hb, hrow, by omega, h2, ?_, ?_⟩⟩, ⟨rfl, rfl, rfl, by simp, fun j _ hj => setRow_other w g j _ (fun e => hj (by rw [e]))⟩⟩
    · obtain ⟨m, hm⟩ : ∃ m, n - k = m + 1 := ⟨n - k - 1, by omega⟩
      rw [hm] at hZ
      rw [hm]
      simp only [Builtin.clear_]
      simp [run_underlying Try.underlying27, hZ, hst]
    · rw [keyCells_length, List.length_take]; omega
    · simp only [List.size_toArray, List.length_append, List.length_take, List.length_drop, Array.length_toList, hZl]
      rw [h3]; omega
    · simp only [List.append_assoc]
      rw [List.take_append_of_le_length (by simp; omega), List.take_take, Nat.min_self]
      have e1 : cur.toList.take (k * 2) = (cur.toList.take (n * 2)).take (k * 2) := by rw [List.take_take]; congr 1; omega
      rw [e1, h4]
      exact keyCells_take ks k
theorem dedup_small {ks : List Key} (h : ks.length < 2) : dedupD ks = ks := by
  match ks, h with
  | [], _ => rfl
  | [x], _ => rfl
theorem dedup_on {ks : List Key} {k : Nat} {x y : Key} (h : dedupD ks = ks.take k ++ dedupFrom y (ks.drop k)) (hd : ks.drop k = x :: ks.drop (k + 1)) (hx : ks[k]? = some x) (hne : (x == y) = false) :
    dedupD ks = ks.take (k + 1) ++ dedupFrom x (ks.drop (k + 1)) := by
  rw [h, hd]
  simp only [dedupFrom, hne, Bool.false_eq_true, if_false]
  rw [List.take_add_one, hx]; simp

theorem dedup_same {ks : List Key} {k : Nat} {x y : Key} (h : dedupD ks = ks.take k ++ dedupFrom y (ks.drop k)) (hd : ks.drop k = x :: ks.drop (k + 1)) (_hx : ks[k]? = some x) (he : (x == y) = true) :
    dedupD ks = ks.take k ++ dedupFrom x (ks.drop (k + 1)) := by
  have : x = y := by simpa using he
  subst this
  rw [h, hd]
  simp only [dedupFrom, beq_self_eq_true, if_true]

theorem take_set (l : List Key) (x : Key) {k : Nat} (h : k < l.length) : (l.set k x).take (k + 1) = l.take k ++ [x] := by
  rw [List.take_add_one, List.getElem?_set_self h, List.take_set_of_le (Nat.le_refl _)]; rfl

/-- a call answers a part of the row that it was given -/
def RetRow (ks : List Key) (base : Nat) (v : Value) (w : World) (e : Ending) (w' : World) : Prop := ∃ v', e = .returned v' ∧ OwnKeys w' base v' ks ∧ w.grownBy w' v.ownBlock ∧ v'.ownBlock = v.ownBlock

set_option maxRecDepth 100000 in
set_option maxHeartbeats 1600000 in
theorem compact_any (v : Value) (base : Nat) (ks : List Key) (w : World) (ho : OwnKeys w base v ks) (hn : ks.length ≤ 1048576) :
    Calls Try.prog 22 #[v] w (RetRow (dedupD ks) base v w) := by
  by_cases h2 : ks.length < 2
  · have hsm := hid (dedup_small h2)
    have hret : ∀ A n c, v = .slice A n c → n < 2 → Calls Try.prog 22 #[.slice A n c] w fun e w' => e = .returned (.slice A n c) ∧ w' = w := by
      intro A n c hv hn2
      clear hv ho
      go_enter Try.func22, Try.ntmps22
      go_wp2
      go_ret
      exact ⟨rfl, rfl⟩
    have hfin : ∀ e w', e = .returned v ∧ w' = w → RetRow (dedupD ks) base v w e w' := by
      rintro e w' ⟨rfl, rfl⟩
      exact ⟨v, rfl, by rw [hsm.out]; exact ho, World.grownBy.refl _ _, rfl⟩
    rcases ho.2 with ⟨hv, h0⟩ | ⟨g, cap, cur, hv, _⟩
    · have := hret none 0 0 hv (by omega)
      subst hv
      exact this.mono hfin
    · have := hret _ _ _ hv h2
      subst hv
      exact this.mono hfin
  · obtain ⟨g, cap, rfl, hcap, hcm, hb, hg, hfz, hka⟩ := own_keys_at ho (by omega)
    generalize hnl : ks.length = n at *
    have HNL := hid hnl; clear hnl
    have hgu := keyGuard
    unfold OwnKeys at ho
    have ho' : w.ownsRow base 32 2 (.slice (some ⟨g, 0, none⟩) n cap) n (keyCells ks) := by have := ho; rw [HNL.out] at this; exact this
    have HO := hid ho'; clear ho ho'
    have HKA := hid hka; clear hka
    go_enter Try.func22, Try.ntmps22
    go_wp2
    go_loopw [3] (fun i wr => ∃ (k : Nat) (y : Key), 1 ≤ k ∧ k ≤ n ∧ i = .int .i64 k ∧ (∃ q, wr = w.drewN q) ∧ Hid (ks[k - 1]? = some y) ∧ Hid (dedupD ks = ks.take k ++ dedupFrom y (ks.drop k))) (fun i _ => n - (intOf i).toNat)
    case atStart =>
      obtain ⟨b, f, x, _, _, _, _, hx, hd⟩ := keys_get HKA.out (show 0 < n by omega)
      refine ⟨1, x, by omega, by omega, rfl, ⟨0, rfl⟩, hid hx, hid ?_⟩
      have : ks = x :: ks.drop 1 := hd
      rw [this]; rfl
    case round =>
      obtain ⟨k, y, hk1, hk, rfl, ⟨q, rfl⟩, hy, hh⟩ := hrel
      obtain ⟨j, rfl⟩ : ∃ j, k = j + 1 := ⟨k - 1, by omega⟩
      by_cases hlt : j + 1 < n
      · obtain ⟨b, f, x, hA, _, c0, c1, hx, hd⟩ := keys_get HKA.out hlt
        obtain ⟨b2, f2, y', hA2, _, e0, e1, hy', _⟩ := keys_get HKA.out (show j < n by omega)
        cases hA; cases hA2
        obtain rfl : y' = y := by have := hy.out; rw [show j + 1 - 1 = j by omega, hy'] at this; cases this; rfl
        have HX := hid hx; clear hx hy'
        have HD := hid hd; clear hd
        simp only [Nat.zero_add] at c0 c1 e0 e1
        have i1 : (0 : Int) ≤ (j : Int) := by omega
        have i2 : (j : Int) < (n : Int) := by omega
        have i3 : IntKind.i64.wrap (j : Int) = j := IntWalk.i64_in _ (by omega)
        have i4 : (0 : Int) ≤ (j : Int) + 1 := by omega
        have i5 : ((j : Int) + 1).toNat = j + 1 := by omega
        have hq := fun w => run_eq_key x y' w
        cases g1 : x == y'
        · rw [g1] at hq
          go_wp2
          go_quiet (fail)
          go_wp2
          refine ⟨⟨j + 1 + 1, x, by omega, by omega, by go_num, ⟨q + nq, by first | rfl | rw [World.drewN_drewN]⟩, hid (by rw [show j + 1 + 1 - 1 = j + 1 by omega]; exact HX.out), hid (dedup_on hh.out HD.out HX.out g1)⟩, by simp [intOf]; omega⟩
        · rw [g1] at hq
          go_wp2
          go_quiet (fail)
          go_wp2
          have hz0 := hid (dedup_same hh.out HD.out HX.out g1)
          have hgb0 := hid (World.grownBy.refl w (some g))
          have HXX := HX
          have hgbd : ∀ (q : Nat) (w' : World), w.grownBy w' (some g) → w.grownBy (w'.drewN q) (some g) := fun q w' h => ⟨h.os, h.tape, h.output, h.size, h.block⟩
          have HGD := hid hgbd; clear hgbd
          go_loopw [3, 5] (fun i3 i5 wi => ∃ (k i : Nat) (z : Key) (as_ : List Key), j + 1 + i < n ∧ k ≤ j + 1 + i ∧ i3 = .int .i64 k ∧ i5 = .int .i64 ↑(i + 1) ∧ Hid (as_.length = n) ∧ Hid (as_.drop (j + 1 + i) = ks.drop (j + 1 + i)) ∧
            Hid (ks[j + 1 + i]? = some z) ∧ Hid (dedupD ks = as_.take k ++ dedupFrom z (ks.drop (j + 1 + i + 1))) ∧ Hid (wi.ownsRow base 32 2 (.slice (some ⟨g, 0, none⟩) n cap) n (keyCells as_)) ∧ Hid (w.grownBy wi (some g)))
            (fun _ i5 _ => n - (intOf i5).toNat)
          case atStart => exact ⟨j + 1, 0, x, ks, by omega, by omega, by go_num, rfl, hid HNL.out, hid rfl, HXX, hz0, HO, HGD.out _ _ hgb0.out⟩
          case round =>
            obtain ⟨k, i, z, as_, hi, hki, rfl, rfl, hal, had, hz, hdd, hown, hgb⟩ := hrel
            obtain ⟨wi, rfl⟩ : ∃ wi : World, wi = wr := ⟨_, rfl⟩
            by_cases hlt2 : j + 1 + i + 1 < n
            · have hka2 := (own_keys_at (w := wi) (base := base) (v := .slice (some ⟨g, 0, none⟩) n cap) (ks := as_) (by unfold OwnKeys; rw [hal.out]; exact hown.out) (by rw [hal.out]; omega))
              obtain ⟨g', cap', hv', _, _, _, _, hfz', hkat⟩ := hka2
              obtain rfl : g = g' := by have := congrArg Value.ownBlock hv'; simpa [Value.ownBlock] using this
              clear hv'
              rw [hal.out] at hkat
              obtain ⟨b3, f3, x3, hA3, _, p0, p1, _, _⟩ := keys_get hkat (show k < n by omega)
              cases hA3
              simp only [Nat.zero_add] at p0 p1
              obtain ⟨b, f, x1, hA, _, c0', c1', hx1, hd1⟩ := keys_get hkat hlt2
              obtain ⟨b2, f2, y1, hA2, _, e0', e1', hy1, hd2⟩ := keys_get hkat hi
              cases hA; cases hA2
              have hdr := had.out
              have hy1' : y1 = z := by
                have h1 : (as_.drop (j + 1 + i))[0]? = some y1 := by rw [List.getElem?_drop]; simpa using hy1
                rw [hdr, List.getElem?_drop] at h1
                have h2 := hz.out
                simp only [Nat.add_zero] at h1
                rw [h2] at h1; cases h1; rfl
              subst hy1'
              have hksx : ks[j + 1 + i + 1]? = some x1 := by
                have h1 : (as_.drop (j + 1 + i))[1]? = some x1 := by rw [List.getElem?_drop]; exact hx1
                rw [hdr, List.getElem?_drop] at h1
                exact h1
              have hksd : ks.drop (j + 1 + i + 1) = x1 :: ks.drop (j + 1 + i + 1 + 1) := by
                obtain ⟨hl, he⟩ := List.getElem?_eq_some_iff.1 hksx
                rw [← he]; exact List.drop_eq_getElem_cons hl
              have had2 : as_.drop (j + 1 + i + 1) = ks.drop (j + 1 + i + 1) := by
                have := congrArg (List.drop 1) hdr
                rwa [List.drop_drop, List.drop_drop] at this
              have HKSX := hid hksx; clear hksx
              have HKSD := hid hksd; clear hksd
              have HAD2 := hid had2; clear had2 hdr
              clear hx1 hd1 hy1 hd2
              have c0 : wi.cell? ⟨g, (j + 1) * 2 + (i + 1) * 2, none⟩ = some (.int .i64 x1.o) := by rw [← c0']; congr 2; omega
              have c1 : wi.cell? ⟨g, (j + 1) * 2 + (i + 1) * 2 + 1, none⟩ = some (.int .i64 x1.s) := by rw [← c1']; congr 2; omega
              have e0 : wi.cell? ⟨g, (j + 1) * 2 + i * 2, none⟩ = some (.int .i64 y1.o) := by rw [← e0']; congr 2; omega
              have e1 : wi.cell? ⟨g, (j + 1) * 2 + i * 2 + 1, none⟩ = some (.int .i64 y1.s) := by rw [← e1']; congr 2; omega
              clear c0' c1' e0' e1'
              have i1 : (0 : Int) ≤ (i : Int) := by omega
              have i2 : (i : Int) < ((n - (j + 1) : Nat) : Int) := by omega
              have i2' : (i : Int) + 1 < ((n - (j + 1) : Nat) : Int) := by omega
              have i3 : IntKind.i64.wrap (i : Int) = i := IntWalk.i64_in _ (by omega)
              have i4 : (0 : Int) ≤ (i : Int) + 1 := by omega
              have i5 : ((i : Int) + 1).toNat = i + 1 := by omega
              have hq := fun w => run_ne_key x1 y1 w
              cases g2 : x1 == y1
              · rw [g2] at hq
                go_wp2
                go_quiet (fail)
                go_wp2
                have ho2 := own_set hown.out hal.out (show k < n by omega) x1
                have hg2 := gb_trans (hown.out.stored (k * 2) (.int .i64 x1.o)).2 ((hown.out.stored (k * 2) (.int .i64 x1.o)).1.stored (k * 2 + 1) (.int .i64 x1.s)).2
                refine ⟨⟨k + 1, i + 1, x1, as_.set k x1, by omega, by omega, by go_num, by go_num, hid (by rw [List.length_set]; exact hal.out), hid ?_, hid (by rw [show j + 1 + (i + 1) = j + 1 + i + 1 by omega]; exact HKSX.out), hid ?_, hid ho2, hid (gb_trans hgb.out ⟨hg2.os, hg2.tape, hg2.output, hg2.size, hg2.block⟩)⟩, by simp [intOf]; omega⟩
                · rw [show j + 1 + (i + 1) = j + 1 + i + 1 by omega, List.drop_set_of_lt (by omega)]; exact HAD2.out
                · rw [show j + 1 + (i + 1) + 1 = j + 1 + i + 1 + 1 by omega, take_set as_ x1 (by rw [hal.out]; omega), hdd.out, HKSD.out]
                  simp only [dedupFrom, g2, Bool.false_eq_true, if_false, List.append_assoc, List.singleton_append]
              · rw [g2] at hq
                go_wp2
                go_quiet (fail)
                go_wp2
                refine ⟨⟨k, i + 1, x1, as_, by omega, by omega, rfl, by go_num, hal, hid (by rw [show j + 1 + (i + 1) = j + 1 + i + 1 by omega]; exact HAD2.out), hid (by rw [show j + 1 + (i + 1) = j + 1 + i + 1 by omega]; exact HKSX.out), hid ?_, hid hown.out, hid (HGD.out _ _ hgb.out)⟩, by simp [intOf]; omega⟩
                have hxy : x1 = y1 := by simpa using g2
                rw [show j + 1 + (i + 1) + 1 = j + 1 + i + 1 + 1 by omega, hdd.out, HKSD.out, hxy]
                simp only [dedupFrom, beq_self_eq_true, if_true]
            · have hend : Hid (dedupD ks = as_.take k) := hid (by
                rw [hdd.out, List.drop_eq_nil_of_le (by rw [HNL.out]; omega)]; simp [dedupFrom])
              obtain ⟨w2, hrun, hown2, hgb2⟩ := own_clear hown.out hal.out (show k < n by omega)
              have hkc : (cap == k) = false := by rw [beq_eq_false_iff_ne]; omega
              have i0 : (i : Int) + 1 = ((n - (j + 1) : Nat) : Int) := by omega
              have I0 := hid i0; clear i0
              have hge : ((n - (j + 1) : Nat) : Int) ≤ (i : Int) + 1 := by have := I0.out; omega
              go_wp2
              go_ret
              refine ⟨_, rfl, ?_, gb_trans hgb.out hgb2, rfl⟩
              rw [hend.out]
              unfold OwnKeys
              rw [List.length_take, hal.out, Nat.min_eq_left (by omega)]
              exact hown2
      · obtain rfl : j + 1 = n := by omega
        go_wp2
        go_ret
        refine ⟨_, rfl, ?_, ⟨rfl, rfl, rfl, Nat.le_refl _, fun _ _ _ => rfl⟩, rfl⟩
        have : dedupD ks = ks := by
          rw [hh.out, List.drop_eq_nil_of_le (by rw [HNL.out]; omega), List.take_of_length_le (by rw [HNL.out]; omega)]; simp [dedupFrom]
        rw [this]
        have := HO.out
        unfold OwnKeys
        rw [HNL.out]
        exact this

/-- what some list has -/
def orD (ls : List (List Post)) : List Key := if oddB ls then [] else dedupD (sortD (ls.flatMap fun l => l.map (·.k)))
/-- how many posts all lists have together -/
def total (ls : List (List Post)) : Nat := (ls.map List.length).sum

set_option maxHeartbeats 1600000 in
theorem or_any (A : Option Addr) (n c : Nat) (ls : List (List Post)) (w : World) (S : Nat → Prop) (hS : ∀ b, S b → b < w.heap.size) (hn : n ≤ 1048576) (hp : RowsAt w S A n ls)
    (hm : ∀ l ∈ ls, l.length ≤ 1048576 ∧ ∀ p ∈ l, p.at_.length ≤ 1048576) (htot : total ls ≤ 1048576) :
    Calls Try.prog 8 #[.slice A n c] w (RetKeys (orD ls) w) := by
  have hl := hid hp.len
  cases hodd : oddB ls
  · obtain ⟨ik, hik, zk0, zk1, zk2⟩ := info_parts keyInfo
    have hod := hid (show orD ls = dedupD (sortD (ls.flatMap fun l => l.map (·.k))) by unfold orD; rw [hodd]; rfl)
    go_enter Try.func8, Try.ntmps8
    go_wp2_with (go_at_call 18; refine (odd_any _ n c ls _ S hS hn hp hm).mono ?_; rw [hodd]; rintro e w1 ⟨rfl, hb1⟩)
    go_loopw [3, 12] (fun v i wr => ∃ (k : Nat) (out : List Key), k ≤ n ∧ i = .int .i64 k ∧ OwnKeys wr w.heap.size v out ∧ Below w.heap.size w wr ∧ Hid ((ls.flatMap fun l => l.map (·.k)) = out ++ ((ls.drop k).flatMap fun l => l.map (·.k))) ∧ out.length + total (ls.drop k) ≤ 1048576) (fun _ i _ => n - (intOf i).toNat)
    case atStart => exact ⟨0, [], by omega, rfl, World.ownsRow_nil _ _ _ _, hb1, hid rfl, by simpa using htot⟩
    case round =>
      obtain ⟨k, out, hk, rfl, hown, hB, hh, htl⟩ := hrel
      obtain ⟨wo, rfl⟩ : ∃ wo : World, wo = wr := ⟨_, rfl⟩
      by_cases hlt : k < n
      · obtain ⟨b, f, x, A', m, c', rfl, hb, c0w, hmc, hx, hxk, hd⟩ := rows_get hp hlt
        have c0 : wo.cell? ⟨b, f + k, none⟩ = some (.slice A' m c') := by rw [(Keep.of_below hB hS).cell hb]; exact c0w
        clear c0w
        have HX := hid hxk; clear hxk
        have HD := hid hd; clear hd
        have hxl := hid hx.len
        have htl2 : out.length + x.length + total (ls.drop (k + 1)) ≤ 1048576 := by
          rw [HD.out] at htl; simp only [total, List.map_cons, List.sum_cons] at htl ⊢; omega
        clear htl
        have hmx : m ≤ 1048576 := by rw [← hxl.out]; omega
        have hst := hid (show (ls.flatMap fun l => l.map (·.k)) = out ++ x.map (·.k) ++ ((ls.drop (k + 1)).flatMap fun l => l.map (·.k)) by rw [hh.out, HD.out]; simp)
        go_wp2
        go_loopw [3, 18] (fun v i wi => ∃ (j : Nat) (ot : List Key), j ≤ m ∧ i = .int .i64 j ∧ OwnKeys wi w.heap.size v ot ∧ Below w.heap.size w wi ∧ Hid (out ++ x.map (·.k) = ot ++ (x.drop j).map (·.k)) ∧ ot.length = out.length + j) (fun _ i _ => m - (intOf i).toNat)
        case atStart => exact ⟨0, out, by omega, rfl, hown, hB, hid rfl, by omega⟩
        case round =>
          obtain ⟨j, ot, hj, rfl, hown2, hB2, hh2, hol⟩ := hrel
          obtain ⟨wi, rfl⟩ : ∃ wi : World, wi = wr := ⟨_, rfl⟩
          have HOL := hid hol; clear hol
          by_cases hlj : j < m
          · obtain ⟨b2, f2, y, A2, m2, c2, rfl, hb2, d0, d1, d2, hmc2, hy, hyk, hyd⟩ := posts_get (posts_keep hx (Keep.of_below hB2 hS)) hlj
            have HYD := hid hyd; clear hyd hyk
            have h3 : ot.length + 1 ≤ maxLen := by have := HOL.out; have := hxl.out; unfold maxLen; omega
            have h4 : (ot.length + 1) * 16 ≤ 140737488355328 := by have := HOL.out; have := hxl.out; omega
            have hs1 : w.heap.size ≤ ((wi.alloc (.cells #[.int .i64 y.k.o, .int .i64 y.k.s, .slice A2 m2 c2] 35)).alloc (.cells #[.int .i64 y.k.o, .int .i64 y.k.s] 32)).heap.size := by
              have := hB2.size; simp only [size_alloc]; omega
            unfold OwnKeys at hown2
            go_wp2_with (at_builtin
                         refine wpList_append_own _ rfl _ _ 27 rfl w.heap.size 32 ik _ 2 16 Try.underlying27 hik zk0 zk1 zk2 rfl (by decide) _ _ _ rfl ((hown2.alloc _).alloc _) ⟨wi.heap.size + 1, 0, none⟩ 1 1 [.int .i64 y.k.o, .int .i64 y.k.s] rfl rfl (cells_new_at (wi.alloc _) (size_alloc _ _) _ _) (ones2 _ _) h3 h4 hs1 ?_
                         intro v1 w3 hown1 hg1 hiff1
                         clear hiff1)
            refine ⟨⟨j + 1, ot ++ [y.k], by omega, by go_num, ?_, ?_, hid (by rw [hh2.out, HYD.out]; simp), by rw [List.length_append, HOL.out]; simp; omega⟩, by simp [intOf]; omega⟩
            · unfold OwnKeys
              rw [keyCells_snoc, List.length_append]
              exact hown1
            · exact ((hB2.alloc hB2.size _).alloc (le_alloc hB2.size _) _).grown hg1 hs1 (fun k hk => (hown2.lt k hk).1)
          · obtain rfl : j = m := by omega
            have hend : Hid ((ls.flatMap fun l => l.map (·.k)) = ot ++ ((ls.drop (k + 1)).flatMap fun l => l.map (·.k))) := hid (by
              rw [hst.out, hh2.out, show x.drop j = [] from List.drop_eq_nil_of_le (by rw [hxl.out]; omega)]; simp)
            have htl3 : ot.length + total (ls.drop (k + 1)) ≤ 1048576 := by have := HOL.out; have := hxl.out; omega
            go_wp2
            exact ⟨⟨k + 1, ot, by omega, by go_num, hown2, hB2, hend, htl3⟩, by simp [intOf]; omega⟩
      · obtain rfl : k = n := by omega
        have hout : Hid ((ls.flatMap fun l => l.map (·.k)) = out) := hid (by rw [hh.out, List.drop_eq_nil_of_le (by rw [hl.out]; omega)]; simp)
        have hsz : out.length ≤ 1048576 := by omega
        clear htl
        have hso := hid (sort_any u3 w.heap.size out wo hown (by omega))
        go_wp2_with (go_at_call 19; refine hso.out.mono ?_; rintro e w2 ⟨rfl, hown2, hg2⟩)
        have hlen : (sortD out).length ≤ 1048576 := by rw [show (sortD out).length = out.length from (List.mergeSort_perm out _).length_eq]; exact hsz
        have hco := hid (compact_any u3 w.heap.size (sortD out) w2 hown2 hlen)
        have hb2 : Below w.heap.size w w2 := hB.grown hg2 hB.size (fun k hk => (hown.lt k hk).1)
        refine hco.out.mono ?_
        rintro e w4 ⟨v4, rfl, hown4, hg4, _⟩
        go_wp2
        go_ret
        exact ⟨v4, rfl, by rw [hod.out, hout.out]; exact hown4, hb2.grown hg4 hb2.size (fun k hk => (hown2.lt k hk).1)⟩
  · have hnil : Hid (orD ls = []) := hid (by unfold orD; rw [hodd]; rfl)
    go_enter Try.func8, Try.ntmps8
    go_wp2_with (go_at_call 18; refine (odd_any A n c ls _ S hS hn hp hm).mono ?_; rw [hodd]; rintro e w1 ⟨rfl, hb1⟩)
    go_ret
    exact ⟨_, rfl, by rw [hnil.out]; exact World.ownsRow_nil _ _ _ _, hb1⟩
end Go.Proofs.Ytajggbekljohpaa
