/- Copies: slices.Clone at ints and at posts. -/
import Derived.Test.YtajggbekljohpaaPostI
import Derived.Test.YtajggbekljohpaaPostG
import Derived.WalkSpells
namespace Go.Proofs.Ytajggbekljohpaa
open Go.RowKit

theorem intInfo : (Try.prog.info? 3).map (fun i => (i.zero, i.size, i.bytes)) = some (some (.int .i64 0), 1, 8) := by kernel_rfl
theorem add_at (b f j : Nat) : (⟨b, f, none⟩ : Addr).add j = ⟨b, f + j, none⟩ := by unfold Addr.add; split <;> simp_all
/-- a row of numbers of the call's own -/
def OwnInts (w : World) (base : Nat) (v : Value) (zs : List Int) : Prop := w.ownsRow base 3 1 v zs.length (zs.map (Value.int .i64))
theorem ints_news {w : World} {S : Nat → Prop} {A : Option Addr} {n : Nat} {zs : List Int} (h : IntsAt w S A n zs) (ad : Addr) (hA : A = some ad) : ∀ j u, (zs.map (Value.int .i64))[j]? = some u → w.cell? (ad.add j) = some u := by
  intro j u hu
  rw [List.getElem?_map] at hu
  cases hz : zs[j]? with
  | none => rw [hz] at hu; simp at hu
  | some x =>
    rw [hz] at hu; simp at hu; subst hu
    have hj : j < n := by rw [← h.len]; exact (List.getElem?_eq_some_iff.1 hz).1
    obtain ⟨b, f, y, hA', _, hc, _, hy, _⟩ := ints_get h hj
    rw [hA] at hA'; cases hA'
    rw [hz] at hy; cases hy
    rw [add_at]; exact hc
theorem ones_ints (zs : List Int) : ∀ u ∈ zs.map (Value.int .i64), u.oneCell' = true := by
  intro u hu; obtain ⟨x, _, rfl⟩ := List.mem_map.1 hu; rfl

theorem cloneInts_any (ad : Addr) (n c : Nat) (zs : List Int) (w : World) (S : Nat → Prop) (hS : ∀ b, S b → b < w.heap.size) (hn : n ≤ 1048576) (hz : IntsAt w S (some ad) n zs) :
    Calls Try.prog 26 #[.slice (some ad) n c] w fun e w' => ∃ v, e = .returned v ∧ OwnInts w' w.heap.size v zs ∧ Below w.heap.size w w' := by
  obtain ⟨i0, hi0, z0, z1, z2⟩ := info_parts intInfo
  have hnil := fun (w : World) (a : Option Addr) (n c n' c' : Nat) => Lib.run_eql_slice_nil (P := Try.prog) w 33 3 a n c n' c' Try.underlying33
  have hzl := hid hz.len
  have hz' := ints_keep hz ((Keep.refl S w).alloc hS (.cells #[] 3))
  have hnews := hid (ints_news hz' ad rfl)
  have h3 : 0 + n ≤ maxLen := by unfold maxLen; omega
  have h4 : (0 + n) * 8 ≤ 140737488355328 := by omega
  have hlen : (zs.map (Value.int .i64)).length = n * 1 := by rw [List.length_map, hzl.out]; omega
  have HLEN := hid hlen; clear hlen
  have hone := hid (ones_ints zs)
  have hown0 : (w.alloc (.cells #[] 3)).ownsRow w.heap.size 3 1 (.slice (some ⟨w.heap.size, 0, none⟩) 0 0) 0 [] := own_lit [] 3 1 0 (Nat.le_refl _) rfl (by unfold maxLen; omega)
  have hs1 : w.heap.size ≤ (w.alloc (.cells #[] 3)).heap.size := le_alloc (Nat.le_refl _) _
  clear hz hz'
  go_enter Try.func26, Try.ntmps26
  go_wp2_with (at_builtin
               refine wpList_append_own _ rfl _ _ 33 rfl w.heap.size 3 i0 _ 1 8 Try.underlying33 hi0 z0 z1 z2 rfl (by decide) _ _ _ rfl hown0 ad n c (zs.map (Value.int .i64)) rfl HLEN.out hnews.out hone.out h3 h4 hs1 ?_
               intro v1 w2 hown1 hg1 hiff1
               clear hiff1)
  go_ret
  refine ⟨v1, rfl, ?_, ((Below.refl _ _).alloc (Nat.le_refl _) _).grown hg1 hs1 (fun k hk => (hown0.lt k hk).1)⟩
  unfold OwnInts
  rw [hzl.out]
  simpa using hown1

theorem posts_news {w : World} {S : Nat → Prop} {n : Nat} {ps : List Post} (ad : Addr) (h : PostsAt w S (some ad) n ps) :
    ∃ qs : List (Post × Value), qs.map (·.1) = ps ∧ (∀ j u, (postCells qs)[j]? = some u → w.cell? (ad.add j) = some u) ∧ (∀ u ∈ postCells qs, u.oneCell' = true) ∧ ∀ q ∈ qs, ∃ A m c, q.2 = .slice A m c ∧ m ≤ c ∧ IntsAt w S A m q.1.at_ := by
  rcases Nat.eq_zero_or_pos n with h0 | h0
  · subst h0
    exact ⟨[], by rw [h.eq_nil]; rfl, by simp [postCells], by simp [postCells], by simp⟩
  · obtain ⟨b, f, hA, hb, hx⟩ := h.2 h0
    cases hA
    have hl := h.len
    clear h
    suffices H : ∀ (r : List Post) (o : Nat), (∀ k x, r[k]? = some x → ∃ cs, cs.length = 3 ∧ (∀ j u, cs[j]? = some u → w.cell? ⟨b, f + (o + k) * 3 + j, none⟩ = some u) ∧ EPost w S cs x) →
        ∃ qs : List (Post × Value), qs.map (·.1) = r ∧ (∀ j u, (postCells qs)[j]? = some u → w.cell? ⟨b, f + o * 3 + j, none⟩ = some u) ∧ (∀ u ∈ postCells qs, u.oneCell' = true) ∧ ∀ q ∈ qs, ∃ A m c, q.2 = .slice A m c ∧ m ≤ c ∧ IntsAt w S A m q.1.at_ by
      obtain ⟨qs, h1, h2, h3, h4⟩ := H ps 0 (fun k x hk => by have := hx k x hk; rwa [Nat.zero_add])
      exact ⟨qs, h1, fun j u hu => by rw [add_at]; have := h2 j u hu; simpa using this, h3, h4⟩
    intro r
    induction r with
    | nil => intro o _; exact ⟨[], rfl, by simp [postCells], by simp [postCells], by simp⟩
    | cons x r ih =>
      intro o hr
      obtain ⟨cs, hcl, hc, A, m, c, rfl, hmc, hi⟩ := hr 0 x rfl
      obtain ⟨qs, h1, h2, h3, h4⟩ := ih (o + 1) (fun k y hk => by have := hr (k + 1) y (by simpa using hk); rwa [show o + (k + 1) = o + 1 + k by omega] at this)
      refine ⟨(x, .slice A m c) :: qs, by simp [h1], fun j u hu => ?_, fun u hu => ?_, fun q hq => ?_⟩
      · change ([Value.int .i64 x.k.o, .int .i64 x.k.s, .slice A m c] ++ postCells qs)[j]? = some u at hu
        by_cases hj : j < 3
        · rw [List.getElem?_append_left (by simpa using hj)] at hu
          have := hc j u hu
          rwa [Nat.add_zero] at this
        · rw [List.getElem?_append_right (by simp; omega)] at hu
          have := h2 _ u hu
          rw [← this]; congr 2; simp; omega
      · change u ∈ [Value.int .i64 x.k.o, .int .i64 x.k.s, .slice A m c] ++ postCells qs at hu
        rcases List.mem_append.1 hu with hu | hu
        · exact ones3 _ _ _ _ _ u hu
        · exact h3 u hu
      · rcases List.mem_cons.1 hq with rfl | hq
        · exact ⟨A, m, c, rfl, hmc, hi⟩
        · exact h4 q hq

theorem clonePosts_any (ad : Addr) (n c : Nat) (ps : List Post) (w : World) (S : Nat → Prop) (hS : ∀ b, S b → b < w.heap.size) (hn : n ≤ 1048576) (hz : PostsAt w S (some ad) n ps) :
    Calls Try.prog 30 #[.slice (some ad) n c] w fun e w' => ∃ v, e = .returned v ∧ v ≠ .slice none 0 0 ∧ OwnPosts w' w.heap.size S v ps ∧ Below w.heap.size w w' := by
  obtain ⟨i0, hi0, z0, z1, z2⟩ := info_parts postInfo
  have hnil := fun (w : World) (a : Option Addr) (n c n' c' : Nat) => Lib.run_eql_slice_nil (P := Try.prog) w 22 35 a n c n' c' Try.underlying22
  have hzl := hid hz.len
  have hz' := posts_keep hz ((Keep.refl S w).alloc hS (.cells #[] 35))
  obtain ⟨qs, hq1, hq2, hq3, hq4⟩ := posts_news ad hz'
  have HQ1 := hid hq1; clear hq1
  have HQ2 := hid hq2; clear hq2
  have HQ3 := hid hq3; clear hq3
  have HQ4 := hid hq4; clear hq4
  have h3 : 0 + n ≤ maxLen := by unfold maxLen; omega
  have h4 : (0 + n) * 40 ≤ 140737488355328 := by omega
  have hql : qs.length = n := by rw [← hzl.out, ← HQ1.out, List.length_map]
  have hlen : (postCells qs).length = n * 3 := by rw [postCells_length, hql]
  have HLEN := hid hlen; clear hlen
  have hown0 : (w.alloc (.cells #[] 35)).ownsRow w.heap.size 35 3 (.slice (some ⟨w.heap.size, 0, none⟩) 0 0) 0 [] := own_lit [] 35 3 0 (Nat.le_refl _) rfl (by unfold maxLen; omega)
  have hs1 : w.heap.size ≤ (w.alloc (.cells #[] 35)).heap.size := le_alloc (Nat.le_refl _) _
  clear hz hz'
  have HQL := hid hql; clear hql
  go_enter Try.func30, Try.ntmps30
  go_wp2_with (at_builtin
               refine wpList_append_own _ rfl _ _ 22 rfl w.heap.size 35 i0 _ 3 40 Try.underlying22 hi0 z0 z1 z2 rfl (by decide) _ _ _ rfl hown0 ad n c (postCells qs) rfl HLEN.out HQ2.out HQ3.out h3 h4 hs1 ?_
               intro v1 w2 hown1 hg1 hiff1)
  go_ret
  refine ⟨v1, rfl, fun e => ?_, ⟨qs, HQ1.out, ?_, fun q hq => ?_⟩, ((Below.refl _ _).alloc (Nat.le_refl _) _).grown hg1 hs1 (fun k hk => (hown0.lt k hk).1)⟩
  · have := (hiff1.1 e).1; cases this
  · rw [hzl.out]; simpa using hown1
  · obtain ⟨A, m, c, h1, h2, h3⟩ := HQ4.out q hq
    refine ⟨A, m, c, h1, h2, ints_keep h3 (fun b hb => hg1.block b (lt_alloc (hS b hb) _) (fun e => ?_))⟩
    have := hS b hb
    cases e
    exact absurd (show w.heap.size < w.heap.size from this) (Nat.lt_irrefl _)

theorem zeroPost : (Try.prog.info? 35).bind (·.zero) = some (.agg #[.int .i64 0, .int .i64 0, .slice none 0 0]) := by kernel_rfl
/-- clear(s[k:]), s a row of posts of the call's own -/
theorem own_clearP {w : World} {base g n cap k : Nat} {cs : List Value} (h : w.ownsRow base 35 3 (.slice (some ⟨g, 0, none⟩) n cap) n cs) (hk : k < n) :
    ∃ w', (∀ ty c, (Builtin.clear_ #[22] ty #[.slice (some ⟨g, k * 3, none⟩) (n - k) c]).run Try.prog w = .ok (.tuple #[]) w') ∧
      w'.ownsRow base 35 3 (.slice (some ⟨g, 0, none⟩) k cap) k (cs.take (k * 3)) ∧ w.grownBy w' (some g) := by
  rcases h.2 with ⟨h0, _⟩ | ⟨g', cap', cur, hv, hb, hh, h1, h2, h3, h4⟩
  · cases h0
  · cases hv
    have hzl : ∀ m, (Builtin.zeroCells (Value.agg #[.int .i64 0, .int .i64 0, .slice none 0 0]).cells m).size = m * 3 := fun m => size_zeroCells _ m
    have hz1 : ∀ m, ∀ v ∈ (Builtin.zeroCells (Value.agg #[.int .i64 0, .int .i64 0, .slice none 0 0]).cells m).toList, v.oneCell' = true := by
      intro m v hv
      simp only [Builtin.zeroCells, Value.cells, Array.toList_map, List.mem_map] at hv
      obtain ⟨i, _, rfl⟩ := hv
      have : i % 3 = 0 ∨ i % 3 = 1 ∨ i % 3 = 2 := by omega
      rcases this with e | e | e <;> simp [e, Value.oneCell']
    have hfit : k * 3 + 0 + (Builtin.zeroCells (Value.agg #[.int .i64 0, .int .i64 0, .slice none 0 0]).cells (n - k)).toList.length ≤ cur.size := by
      rw [Array.length_toList, hzl, h3]; omega
    have hst := run_storeCells_at Try.prog g (k * 3) 35 (Builtin.zeroCells (Value.agg #[.int .i64 0, .int .i64 0, .slice none 0 0]).cells (n - k)).toList 0 cur w hh hfit (hz1 _)
    generalize hZ : (Builtin.zeroCells (Value.agg #[.int .i64 0, .int .i64 0, .slice none 0 0]).cells (n - k)).toList = Z at hst hfit
    have hZl : Z.length = (n - k) * 3 := by rw [← hZ, Array.length_toList, hzl]
    simp only [Nat.add_zero] at hst hfit
    have hrow := setRow_heap w g cur (List.take (k * 3) cur.toList ++ Z ++ List.drop (k * 3 + Z.length) cur.toList).toArray _ _ hh
    refine ⟨w.setRow g (List.take (k * 3) cur.toList ++ Z ++ List.drop (k * 3 + Z.length) cur.toList).toArray, fun ty c => ?_, ⟨?_, .inr ⟨g, cap, _, rfl, hb, hrow, by omega, h2, ?_, ?_⟩⟩, ⟨rfl, rfl, rfl, by simp, fun j _ hj => setRow_other w g j _ (fun e => hj (by rw [e]))⟩⟩
    · obtain ⟨m, hm⟩ : ∃ m, n - k = m + 1 := ⟨n - k - 1, by omega⟩
      rw [hm] at hZ
      rw [hm]
      simp only [Builtin.clear_]
      simp [run_underlying Try.underlying22, hZ, hst]
    · rw [List.length_take, h.1]; omega
    · simp only [List.size_toArray, List.length_append, List.length_take, List.length_drop, Array.length_toList, hZl]
      rw [h3]; omega
    · simp only [List.append_assoc]
      rw [List.take_append_of_le_length (by simp; omega), List.take_take, Nat.min_self]
      have e1 : cur.toList.take (k * 3) = (cur.toList.take (n * 3)).take (k * 3) := by rw [List.take_take]; congr 1; omega
      rw [e1, h4]

theorem drop1_any (p : Post) (k : Key) (v : Value) (bx : Nat) (w : World) (h0 : w.cell? ⟨bx, 0, none⟩ = some (.int .i64 k.o)) (h1 : w.cell? ⟨bx, 1, none⟩ = some (.int .i64 k.s)) :
    Calls Try.prog 31 #[.agg #[.int .i64 p.k.o, .int .i64 p.k.s, v], .pointer (some ⟨bx, 0, none⟩)] w fun e w' => e = .returned (.bool (p.k == k)) ∧ Below w.heap.size w w' := by
  have hgu := keyGuard
  have hq := fun w => run_eq_key p.k k w
  have hbx := cell_lt h0
  go_enter Try.func31, Try.ntmps31
  go_wp2
  go_ret
  exact ⟨rfl, (Below.refl _ _).alloc (Nat.le_refl _) _⟩

/-- the place of the first post of a key, or -1 -/
def idxD (ps : List Post) (k : Key) (i : Nat) : Int :=
  match ps with
  | [] => -1
  | p :: r => if p.k == k then i else idxD r k (i + 1)

set_option maxHeartbeats 400000 in
theorem dropIdx_any (bx : Nat) (A : Option Addr) (n c : Nat) (k : Key) (ps : List Post) (w : World) (S : Nat → Prop) (hS : ∀ b, S b → b < w.heap.size) (hn : n ≤ 1048576) (h0 : w.cell? ⟨bx, 0, none⟩ = some (.int .i64 k.o)) (h1 : w.cell? ⟨bx, 1, none⟩ = some (.int .i64 k.s))
    (hp : PostsAt w S A n ps) :
    Calls Try.prog 43 #[.slice A n c, .func (.func 31) #[] #[.pointer (some ⟨bx, 0, none⟩)]] w fun e w' => e = .returned (.int .i64 (idxD ps k 0)) ∧ Below w.heap.size w w' := by
  have hl := hid hp.len
  have hbl := cell_lt h0
  go_enter Try.func43, Try.ntmps43
  go_wp2
  go_loopw [8] (fun i wr => ∃ j : Nat, j ≤ n ∧ i = .int .i64 j ∧ Below w.heap.size w wr ∧ Hid (idxD ps k 0 = idxD (ps.drop j) k j)) (fun i _ => n - (intOf i).toNat)
  case atStart => exact ⟨0, by omega, rfl, Below.refl _ _, hid rfl⟩
  case round =>
    obtain ⟨j, hj, rfl, hB, hh⟩ := hrel
    by_cases hlt : j < n
    · obtain ⟨b, f, x, A', m, c', rfl, hb, c0, c1, c2, hmc, hx, hxk, hd⟩ := posts_get (posts_keep hp (Keep.of_below hB hS)) hlt
      have HD := hid hd; clear hd hxk
      have e0 : wr.cell? ⟨bx, 0, none⟩ = some (.int .i64 k.o) := by rw [hB.cell (p := ⟨bx, 0, none⟩) hbl]; exact h0
      have e1 : wr.cell? ⟨bx, 1, none⟩ = some (.int .i64 k.s) := by rw [hB.cell (p := ⟨bx, 1, none⟩) hbl]; exact h1
      have hcon := hid (drop1_any x k (.slice A' m c') bx wr e0 e1)
      have hst : Hid (idxD ps k 0 = if x.k == k then (j : Int) else idxD (ps.drop (j + 1)) k (j + 1)) := hid (by rw [hh.out, HD.out]; rfl)
      cases g : x.k == k
      · rw [g] at hst
        go_wp2_with (go_at_call 31; refine hcon.out.mono ?_; rw [g]; rintro e w1 ⟨rfl, hb1⟩)
        exact ⟨⟨j + 1, by omega, by go_num, hB.trans (hb1.mono hB.size), hst⟩, by simp [intOf]; omega⟩
      · rw [g] at hst
        go_wp2_with (go_at_call 31; refine hcon.out.mono ?_; rw [g]; rintro e w1 ⟨rfl, hb1⟩)
        go_ret
        exact ⟨by rw [hst.out]; rfl, hB.trans (hb1.mono hB.size)⟩
    · obtain rfl : j = n := by omega
      have hr : Hid (idxD ps k 0 = -1) := hid (by rw [hh.out, List.drop_eq_nil_of_le (by rw [hl.out]; omega)]; rfl)
      go_wp2
      go_ret
      exact ⟨by rw [hr.out]; rfl, hB⟩
end Go.Proofs.Ytajggbekljohpaa
