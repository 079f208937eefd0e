/- What PostThree asks of the answers, in plain Lean. -/
import Derived.Test.YtajggbekljohpaaPostL
namespace Go.Proofs.Ytajggbekljohpaa
open Go.RowKit

theorem mem_dedupFrom (k : Key) : ∀ (l : List Key) (last : Key), k ∈ dedupFrom last l → k ∈ l
  | [], _, h => by simp [dedupFrom] at h
  | x :: r, last, h => by
    unfold dedupFrom at h
    split at h
    · exact List.mem_cons_of_mem _ (mem_dedupFrom k r last h)
    · rcases List.mem_cons.1 h with rfl | h
      · simp
      · exact List.mem_cons_of_mem _ (mem_dedupFrom k r x h)
theorem mem_dedupFrom' (k : Key) : ∀ (l : List Key) (last : Key), k ∈ l → k = last ∨ k ∈ dedupFrom last l
  | [], _, h => by simp at h
  | x :: r, last, h => by
    unfold dedupFrom
    split
    · rename_i hx
      have hx : x = last := by simpa using hx
      rcases List.mem_cons.1 h with rfl | h
      · exact .inl hx
      · exact mem_dedupFrom' k r last h
    · rcases List.mem_cons.1 h with rfl | h
      · right; simp
      · rcases mem_dedupFrom' k r x h with rfl | h
        · right; simp
        · right; simp [h]
theorem mem_dedupD (k : Key) (l : List Key) : k ∈ dedupD l ↔ k ∈ l := by
  cases l with
  | nil => simp [dedupD]
  | cons x r =>
    simp only [dedupD, List.mem_cons]
    constructor
    · rintro (h | h)
      · exact .inl h
      · exact .inr (mem_dedupFrom k r x h)
    · rintro (h | h)
      · exact .inl h
      · exact mem_dedupFrom' k r x h
theorem mem_sortD (k : Key) (l : List Key) : k ∈ sortD l ↔ k ∈ l := by simp [sortD, List.mem_mergeSort]
theorem mem_orD (k : Key) (ls : List (List Post)) (h : oddB ls = false) : k ∈ orD ls ↔ ∃ l ∈ ls, k ∈ l.map (·.k) := by
  simp [orD, h, mem_dedupD, mem_sortD]
theorem kLt_nlt (a b c : Key) (h : kLt b a = false) (h' : kLt c b = false) : kLt c a = false := by
  rw [Bool.eq_false_iff, ne_eq, kLt_iff] at *
  omega
theorem kLt_eq (a b : Key) (h : kLt b a = false) (h' : kLt a b = false) : a = b := by
  rw [Bool.eq_false_iff, ne_eq, kLt_iff] at *
  cases a; cases b; simp at *; omega
theorem kLt_tr (a b c : Key) (h : kLt b a = false) (h' : kLt b c = true) : kLt a c = true := by
  rw [Bool.eq_false_iff, ne_eq, kLt_iff] at h
  rw [kLt_iff] at *
  omega
theorem sortD_sorted (l : List Key) : (sortD l).Pairwise fun a b => kLt b a = false := by
  have := List.pairwise_mergeSort (le := fun x y : Key => !(ltOf kCmp) y x) (fun a b c h h' => by simp [ltOf_kCmp] at *; exact kLt_nlt a b c h h') (fun a b => by simp [ltOf_kCmp]; cases h : kLt b a <;> cases h' : kLt a b <;> simp; rw [kLt_iff] at *; omega) l
  refine this.imp fun {a b} h => ?_
  simpa [ltOf_kCmp] using h
theorem dedupFrom_rises : ∀ (l : List Key) (last : Key), (last :: l).Pairwise (fun a b => kLt b a = false) → (last :: dedupFrom last l).Pairwise fun a b => kLt a b = true
  | [], _, _ => by simp [dedupFrom]
  | x :: r, last, h => by
    unfold dedupFrom
    split
    · rename_i hx
      have hx : x = last := by simpa using hx
      subst hx
      exact dedupFrom_rises r x (List.pairwise_cons.1 h).2
    · rename_i hx
      have hx : x ≠ last := by simpa using hx
      have ih := dedupFrom_rises r x (List.pairwise_cons.1 h).2
      have hlx : kLt last x = true := by
        cases h1 : kLt last x
        · exact absurd (kLt_eq _ _ ((List.pairwise_cons.1 h).1 x (by simp)) h1).symm hx
        · rfl
      refine List.pairwise_cons.2 ⟨fun y hy => ?_, ih⟩
      rcases List.mem_cons.1 hy with rfl | hy
      · exact hlx
      · have := (List.pairwise_cons.1 ih).1 y hy
        rw [kLt_iff] at *
        omega
theorem orD_nodup (ls : List (List Post)) : (orD ls).Nodup := by
  unfold orD
  split
  · simp
  · have h := sortD_sorted (ls.flatMap fun l => l.map (·.k))
    generalize sortD (ls.flatMap fun l => l.map (·.k)) = s at h
    cases s with
    | nil => simp [dedupD]
    | cons x r =>
      refine (dedupFrom_rises r x h).imp fun {a b} hab he => ?_
      subst he
      rw [kLt_iff] at hab
      omega
theorem less_nil {ks js : List Key} (h : ∀ k ∈ ks, k ∈ js) : lessD ks js = [] := by
  unfold lessD
  rw [List.filter_eq_nil_iff]
  intro k hk
  simp [h k hk]
theorem mem_lessD {ks js : List Key} {k : Key} : k ∈ lessD ks js ↔ k ∈ ks ∧ k ∉ js := by simp [lessD]

section
variable {a b c : List Post}
theorem odd2 (h : oddB [a, b, c] = false) : oddB [a, b] = false ∧ oddB [b, c] = false ∧ oddB [c] = false := by
  simp [oddB] at *
  simp [h]
theorem or_in (h : oddB [a, b, c] = false) : lessD (orD [a, b]) (orD [a, b, c]) = [] := by
  refine less_nil fun k hk => ?_
  rw [mem_orD _ _ (odd2 h).1] at hk
  rw [mem_orD _ _ h]
  obtain ⟨l, hl, hk⟩ := hk
  exact ⟨l, by simp at *; rcases hl with h | h <;> simp [h], hk⟩
theorem or_more (h : oddB [a, b, c] = false) : (lessD (orD [a, b, c]) (orD [a, b])).length = (lessD (orD [c]) (orD [a, b])).length := by
  refine ((List.perm_ext_iff_of_nodup ((orD_nodup _).filter _) ((orD_nodup _).filter _)).2 fun k => ?_).length_eq
  rw [show (List.filter (fun k => !(orD [a, b]).contains k) (orD [a, b, c])) = lessD (orD [a, b, c]) (orD [a, b]) from rfl,
    show (List.filter (fun k => !(orD [a, b]).contains k) (orD [c])) = lessD (orD [c]) (orD [a, b]) from rfl, mem_lessD, mem_lessD, mem_orD _ _ h, mem_orD _ _ (odd2 h).1, mem_orD _ _ (odd2 h).2.2]
  constructor
  · rintro ⟨⟨l, hl, hk⟩, hn⟩
    refine ⟨⟨c, by simp, ?_⟩, hn⟩
    simp only [List.mem_cons, List.not_mem_nil, or_false] at hl
    rcases hl with rfl | rfl | rfl
    · exact absurd ⟨_, by simp, hk⟩ hn
    · exact absurd ⟨_, by simp, hk⟩ hn
    · exact hk
  · rintro ⟨⟨l, hl, hk⟩, hn⟩
    exact ⟨⟨l, by simp at *; simp [hl], hk⟩, hn⟩

theorem each3 (isB : List Post → Bool) (h : oddB [a, b, c] = false) (k : Key) : k ∈ eachD isB [a, b, c] ↔ ∃ p ∈ a, p.k = k ∧ ∃ q, b.find? (fun x => x.k == k) = some q ∧ ∃ r, c.find? (fun x => x.k == k) = some r ∧ isB [p, q, r] = true := by
  simp only [eachD, h, Bool.false_eq_true, if_false, eachL, List.mem_map, List.mem_filter, eachOk, line]
  constructor
  · rintro ⟨p, ⟨hp, ho⟩, rfl⟩
    refine ⟨p, hp, rfl, ?_⟩
    cases hb : b.find? (fun x => x.k == p.k) <;> cases hc : c.find? (fun x => x.k == p.k) <;> simp [hb, hc] at ho ⊢
    exact ho
  · rintro ⟨p, hp, rfl, q, hq, r, hr, hi⟩
    exact ⟨p, ⟨hp, by simp [hq, hr, hi]⟩, rfl⟩
theorem each2 (isB : List Post → Bool) (h : oddB [a, b] = false) (k : Key) : k ∈ eachD isB [a, b] ↔ ∃ p ∈ a, p.k = k ∧ ∃ q, b.find? (fun x => x.k == k) = some q ∧ isB [p, q] = true := by
  simp only [eachD, h, Bool.false_eq_true, if_false, eachL, List.mem_map, List.mem_filter, eachOk, line]
  constructor
  · rintro ⟨p, ⟨hp, ho⟩, rfl⟩
    refine ⟨p, hp, rfl, ?_⟩
    cases hb : b.find? (fun x => x.k == p.k) <;> simp [hb] at ho ⊢
    exact ho
  · rintro ⟨p, hp, rfl, q, hq, hi⟩
    exact ⟨p, ⟨hp, by simp [hq, hi]⟩, rfl⟩
theorem find_k {l : List Post} {k : Key} {q : Post} (h : l.find? (fun x => x.k == k) = some q) : q ∈ l ∧ q.k = k :=
  ⟨List.mem_of_find?_eq_some h, by simpa using List.find?_some h⟩
theorem and_two (h : oddB [a, b, c] = false) : lessD (eachD (fun _ => true) [a, b, c]) (eachD (fun _ => true) [a, b]) = [] := by
  refine less_nil fun k hk => ?_
  rw [each3 _ h] at hk
  rw [each2 _ (odd2 h).1]
  obtain ⟨p, hp, e, q, hq, r, hr, hi⟩ := hk
  exact ⟨p, hp, e, q, hq, rfl⟩
theorem and_last (h : oddB [a, b, c] = false) : lessD (eachD (fun _ => true) [a, b, c]) (eachD (fun _ => true) [b, c]) = [] := by
  refine less_nil fun k hk => ?_
  rw [each3 _ h] at hk
  rw [each2 _ (odd2 h).2.1]
  obtain ⟨p, hp, e, q, hq, r, hr, hi⟩ := hk
  exact ⟨q, (find_k hq).1, (find_k hq).2, r, hr, rfl⟩
theorem filter_two (l : List Key) (p : Key → Bool) : (l.filter p).length + (l.filter fun k => !p k).length = l.length := by
  induction l with
  | nil => rfl
  | cons x r ih => cases hx : p x <;> simp [hx] <;> omega
theorem and_count (h : oddB [a, b, c] = false) : (eachD (fun _ => true) [a, b, c]).length + (lessD (eachD (fun _ => true) [a, b]) (orD [c])).length = (eachD (fun _ => true) [a, b]).length := by
  have e1 : eachD (fun _ => true) [a, b, c] = (eachD (fun _ => true) [a, b]).filter fun k => (orD [c]).contains k := by
    simp only [eachD, h, (odd2 h).1, Bool.false_eq_true, if_false, eachL]
    rw [List.filter_map, List.filter_filter]
    congr 1
    refine List.filter_congr fun p hp => ?_
    have hm : (orD [c]).contains p.k = (c.find? (fun x => x.k == p.k)).isSome := by
      rw [Bool.eq_iff_iff, List.contains_iff_mem, mem_orD _ _ (odd2 h).2.2, List.find?_isSome]
      simp
    simp only [Function.comp, hm, eachOk, line]
    cases hb : b.find? (fun x => x.k == p.k) <;> cases hc : c.find? (fun x => x.k == p.k) <;> simp [hb, hc]
  rw [e1]
  unfold lessD
  exact filter_two _ _
theorem phrase_two (h : oddB [a, b, c] = false) : lessD (eachD followB [a, b, c]) (eachD followB [a, b]) = [] := by
  refine less_nil fun k hk => ?_
  rw [each3 _ h] at hk
  rw [each2 _ (odd2 h).1]
  obtain ⟨p, hp, e, q, hq, r, hr, hi⟩ := hk
  refine ⟨p, hp, e, q, hq, ?_⟩
  simp only [followB, List.any_eq_true, followsAt, Bool.and_eq_true] at *
  obtain ⟨x, hx, h1, h2, h3, _⟩ := hi
  exact ⟨x, hx, h1, h2, trivial⟩
theorem phrase_last (h : oddB [a, b, c] = false) : lessD (eachD followB [a, b, c]) (eachD followB [b, c]) = [] := by
  refine less_nil fun k hk => ?_
  rw [each3 _ h] at hk
  rw [each2 _ (odd2 h).2.1]
  obtain ⟨p, hp, e, q, hq, r, hr, hi⟩ := hk
  refine ⟨q, (find_k hq).1, (find_k hq).2, r, hr, ?_⟩
  simp only [followB, List.any_eq_true, followsAt, Bool.and_eq_true] at *
  obtain ⟨x, hx, h1, h2, h3, _⟩ := hi
  refine ⟨RowKit.wrap64 (x + (0 + 1 : Nat)), by simpa [hasI] using h2, ?_, ?_, trivial⟩
  · have : RowKit.wrap64 (RowKit.wrap64 (x + (0 + 1 : Nat)) + (0 : Nat)) = RowKit.wrap64 (x + (0 + 1 : Nat)) := by
      unfold RowKit.wrap64; omega
    rw [this]; exact h2
  · have : RowKit.wrap64 (RowKit.wrap64 (x + (0 + 1 : Nat)) + (0 + 1 : Nat)) = RowKit.wrap64 (x + (0 + 1 + 1 : Nat)) := by
      unfold RowKit.wrap64; omega
    rw [this]; exact h3
theorem phrase_and (h : oddB [a, b, c] = false) : lessD (eachD followB [a, b, c]) (eachD (fun _ => true) [a, b, c]) = [] := by
  refine less_nil fun k hk => ?_
  rw [each3 _ h] at *
  obtain ⟨p, hp, e, q, hq, r, hr, hi⟩ := hk
  exact ⟨p, hp, e, q, hq, r, hr, rfl⟩
end
end Go.Proofs.Ytajggbekljohpaa
