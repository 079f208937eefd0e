/- grapevinelaw10.PostThree's walk. -/
import Derived.Test.YtajggbekljohpaaPostM
import Derived.Test.YtajggbekljohpaaPostB
namespace Go.Proofs.Ytajggbekljohpaa
open Go.RowKit

/-- a value that is a list of posts -/
def PL (W : World) (v : Value) (p : List Post) : Prop := ∃ A n c, v = .slice A n c ∧ n ≤ c ∧ n ≤ 1048576 ∧ PostsAt W (fun b => b < W.heap.size) A n p ∧ ∀ q ∈ p, q.at_.length ≤ 1048576
theorem PL.keep {W w' : World} {v : Value} {p : List Post} (h : PL W v p) (hb : Below W.heap.size W w') : PL w' v p := by
  obtain ⟨A, n, c, rfl, hc, hn, hp, hm⟩ := h
  exact ⟨A, n, c, rfl, hc, hn, posts_more (posts_keep hp (Keep.of_below hb fun _ h => h)) fun _ h => Nat.lt_of_lt_of_le h hb.size, hm⟩
theorem PL.len {W : World} {v : Value} {p : List Post} (h : PL W v p) : p.length ≤ 1048576 := by
  obtain ⟨A, n, c, rfl, hc, hn, hp, hm⟩ := h
  rw [hp.len]; exact hn
/-- a value that is a list of keys -/
def KL (W : World) (v : Value) (ks : List Key) : Prop := ∃ A n c, v = .slice A n c ∧ KeysAt W (fun b => b < W.heap.size) A n ks
theorem KL.keep {W w' : World} {v : Value} {ks : List Key} (h : KL W v ks) (hb : Below W.heap.size W w') : KL w' v ks := by
  obtain ⟨A, n, c, rfl, hp⟩ := h
  exact ⟨A, n, c, rfl, keys_more (keys_keep hp (Keep.of_below hb fun _ h => h)) fun _ h => Nat.lt_of_lt_of_le h hb.size⟩
def RetKL (ks : List Key) (w : World) (e : Ending) (w' : World) : Prop := ∃ A c, e = .returned (.slice A ks.length c) ∧ KL w' (.slice A ks.length c) ks ∧ Below w.heap.size w w'
theorem retKL_of {ks : List Key} {w w' : World} {e : Ending} (h : RetKeys ks w e w') : RetKL ks w e w' := by
  obtain ⟨v, rfl, ho, hb⟩ := h
  by_cases h0 : 0 < ks.length
  · obtain ⟨g, cap, rfl, _, _, _, hg, _, hk⟩ := own_keys_at ho h0
    exact ⟨_, cap, rfl, ⟨_, _, _, rfl, keys_more hk fun b hbb => by subst hbb; exact hg⟩, hb⟩
  · have : ks = [] := List.eq_nil_of_length_eq_zero (by omega)
    subst this
    rcases ho.2 with ⟨rfl, _⟩ | ⟨g, cap, cur, rfl, _⟩
    · exact ⟨_, _, rfl, ⟨_, _, _, rfl, rfl, fun h => by simp at h⟩, hb⟩
    · exact ⟨_, _, rfl, ⟨_, _, _, rfl, rfl, fun h => by simp at h⟩, hb⟩

/-- the lists lie in a row at g -/
def InRow (W : World) (g : Nat) : Nat → List Value → List (List Post) → Prop
  | _, [], [] => True
  | j, v :: vs, l :: ls => W.cell? ⟨g, j, none⟩ = some v ∧ PL W v l ∧ InRow W g (j + 1) vs ls
  | _, _, _ => False
theorem inRow_get {W : World} {g : Nat} : ∀ (vs : List Value) (ls : List (List Post)) (j : Nat), InRow W g j vs ls → vs.length = ls.length ∧ ∀ k x, ls[k]? = some x → ∃ v, W.cell? ⟨g, j + k, none⟩ = some v ∧ PL W v x
  | [], [], _, _ => ⟨rfl, fun k x h => by simp at h⟩
  | v :: vs, l :: ls, j, h => by
    obtain ⟨i1, i2⟩ := inRow_get vs ls (j + 1) h.2.2
    refine ⟨by simp [i1], fun k x hk => ?_⟩
    match k with
    | 0 => simp at hk; subst hk; exact ⟨v, h.1, h.2.1⟩
    | k + 1 => 
      obtain ⟨u, h1, h2⟩ := i2 k x (by simpa using hk)
      exact ⟨u, by rw [show j + (k + 1) = j + 1 + k by omega]; exact h1, h2⟩
  | [], _ :: _, _, h => h.elim
  | _ :: _, [], _, h => h.elim
theorem rows_of {W : World} {g : Nat} {vs : List Value} {ls : List (List Post)} (h : InRow W g 0 vs ls) (hg : g < W.heap.size) : RowsAt W (fun b => b < W.heap.size) (some ⟨g, 0, none⟩) vs.length ls := by
  obtain ⟨hl, hk⟩ := inRow_get vs ls 0 h
  refine ⟨hl.symm, fun _ => ⟨g, 0, rfl, hg, fun k x hx => ?_⟩⟩
  obtain ⟨v, hc, A, n, c, rfl, hnc, hn, hp, hm⟩ := hk k x hx
  refine ⟨[.slice A n c], rfl, fun j u hu => ?_, A, n, c, rfl, hnc, hp⟩
  match j with
  | 0 => simp at hu; subst hu; simpa using hc
  | j + 1 => simp at hu
theorem bounds_of {W : World} {g : Nat} {vs : List Value} {ls : List (List Post)} (h : InRow W g 0 vs ls) : ∀ l ∈ ls, l.length ≤ 1048576 ∧ ∀ p ∈ l, p.at_.length ≤ 1048576 := by
  obtain ⟨hl, hk⟩ := inRow_get vs ls 0 h
  intro l hll
  obtain ⟨k, hk'⟩ := List.mem_iff_getElem?.1 hll
  obtain ⟨v, hc, A, n, c, rfl, hnc, hn, hp, hm⟩ := hk k l hk'
  exact ⟨by rw [hp.len]; exact hn, hm⟩

section
variable {W : World} {g k : Nat} {vs : List Value} {ls : List (List Post)}
theorem c_great (h : InRow W g 0 vs ls) (hg : g < W.heap.size) (hv : vs.length ≤ 1048576) : Calls Try.prog 4 #[.slice (some ⟨g, 0, none⟩) vs.length k, .int .i64 3] W fun e w' => e = .returned (.bool (greatB ls 3)) ∧ W = w' :=
  great_any _ _ k 3 ls W _ hv (rows_of h hg) (bounds_of h)
theorem c_and (h : InRow W g 0 vs ls) (hg : g < W.heap.size) (hv : vs.length ≤ 1048576) (hk : vs.length ≤ k) : Calls Try.prog 7 #[.slice (some ⟨g, 0, none⟩) vs.length k] W (RetKL (eachD (fun _ => true) ls) W) :=
  (and_any _ _ k ls W (fun b => b < W.heap.size) (fun _ h => h) hv hk (rows_of h hg) (bounds_of h)).mono fun _ _ h => retKL_of h
theorem c_phrase (h : InRow W g 0 vs ls) (hg : g < W.heap.size) (hv : vs.length ≤ 1048576) (hk : vs.length ≤ k) : Calls Try.prog 9 #[.slice (some ⟨g, 0, none⟩) vs.length k] W (RetKL (eachD followB ls) W) :=
  (phrase_any _ _ k ls W (fun b => b < W.heap.size) (fun _ h => h) hv hk (rows_of h hg) (bounds_of h)).mono fun _ _ h => retKL_of h
theorem c_or (h : InRow W g 0 vs ls) (hg : g < W.heap.size) (hv : vs.length ≤ 1048576) (ht : total ls ≤ 1048576) : Calls Try.prog 8 #[.slice (some ⟨g, 0, none⟩) vs.length k] W (RetKL (orD ls) W) :=
  (or_any _ _ k ls W (fun b => b < W.heap.size) (fun _ h => h) hv (rows_of h hg) (bounds_of h) ht).mono fun _ _ h => retKL_of h
theorem c_may {x : Value} {a : List Post} (h : PL W x a) : Calls Try.prog 5 #[x] W fun e w' => e = .returned (.bool (mayB a)) ∧ Below W.heap.size W w' := by
  obtain ⟨A, n, c, rfl, hc, hn, hp, hm⟩ := h
  exact may_any _ n c a W (fun b => b < W.heap.size) (fun _ h => h) hn hp hm
theorem c_less {u v : Value} {ks js : List Key} (hu : KL W u ks) (hv : KL W v js) (h1 : ks.length ≤ 1048576) (h2 : js.length ≤ 1048576) : Calls Try.prog 10 #[u, v] W (RetKL (lessD ks js) W) := by
  obtain ⟨A, n, c, rfl, hp⟩ := hu
  obtain ⟨B, m, d, rfl, hq⟩ := hv
  exact (less_any _ _ n m c d ks js W (fun b => b < W.heap.size) (fun _ h => h) (by rw [← hp.len]; exact h1) (by rw [← hq.len]; exact h2) hp hq).mono fun _ _ h => retKL_of h
end
theorem bl_al {W w' : World} {o : Obj} (hb : Below (W.alloc o).heap.size (W.alloc o) w') : Below W.heap.size W w' :=
  ((Below.refl _ _).alloc (Nat.le_refl _) _).trans (hb.mono (le_alloc (Nat.le_refl _) _))
theorem each_len (isB : List Post → Bool) (l : List Post) (r : List (List Post)) : (eachD isB (l :: r)).length ≤ l.length := by
  simp only [eachD]
  split
  · simp
  · simp only [eachL, List.length_map]; exact List.length_filter_le _ _
theorem dedupFrom_len : ∀ (l : List Key) (x : Key), (dedupFrom x l).length ≤ l.length
  | [], _ => by simp [dedupFrom]
  | y :: r, x => by
    unfold dedupFrom
    split
    · have := dedupFrom_len r x; simp; omega
    · have := dedupFrom_len r y; simp; omega
theorem or_len (ls : List (List Post)) : (orD ls).length ≤ total ls := by
  unfold orD
  split
  · simp
  · have h1 : (sortD (ls.flatMap fun l => l.map (·.k))).length = total ls := by
      simp [sortD, List.length_flatMap, total]
    rw [← h1]
    generalize sortD (ls.flatMap fun l => l.map (·.k)) = s
    cases s with
    | nil => simp [dedupD]
    | cons x r => have := dedupFrom_len r x; simp [dedupD]; omega
theorem great_lens {ls : List (List Post)} {n : Int} (h : greatB ls n = false) : ∀ l ∈ ls, l.length ≤ 40 := by
  simp [greatB] at h
  intro l hl
  have := h.2 l hl
  simp [greatRow] at this
  exact this.1
theorem row3_alloc {W : World} {x y z : Value} {a b c : List Post} {t : TypeId} (hx : PL W x a) (hy : PL W y b) (hz : PL W z c) : InRow (W.alloc (.cells #[x, y, z] t)) W.heap.size 0 [x, y, z] [a, b, c] := by
  have hb : Below W.heap.size W (W.alloc (.cells #[x, y, z] t)) := (Below.refl _ _).alloc (Nat.le_refl _) _
  exact ⟨by simp [go_sem], hx.keep hb, by simp [go_sem], hy.keep hb, by simp [go_sem], hz.keep hb, trivial⟩
theorem row2_alloc {W : World} {x y : Value} {a b : List Post} {t : TypeId} (hx : PL W x a) (hy : PL W y b) : InRow (W.alloc (.cells #[x, y] t)) W.heap.size 0 [x, y] [a, b] := by
  have hb : Below W.heap.size W (W.alloc (.cells #[x, y] t)) := (Below.refl _ _).alloc (Nat.le_refl _) _
  exact ⟨by simp [go_sem], hx.keep hb, by simp [go_sem], hy.keep hb, trivial⟩
theorem row1_alloc {W : World} {x : Value} {a : List Post} {t : TypeId} (hx : PL W x a) : InRow (W.alloc (.cells #[x] t)) W.heap.size 0 [x] [a] := by
  have hb : Below W.heap.size W (W.alloc (.cells #[x] t)) := (Below.refl _ _).alloc (Nat.le_refl _) _
  exact ⟨by simp [go_sem], hx.keep hb, trivial⟩
end Go.Proofs.Ytajggbekljohpaa
