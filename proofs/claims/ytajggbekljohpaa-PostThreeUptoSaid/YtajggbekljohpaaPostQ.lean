/- An argument that is a list of posts, opened. -/
import Derived.Test.YtajggbekljohpaaPostP
import Derived.Test.YtajggbekljohpaaRows
import Derived.Deep.Slices
import Derived.ChangeSame
namespace Go.Proofs.Ytajggbekljohpaa
open Go.RowKit Go.ChangeShapes Go.WideShapes Go.Deep

namespace bulks
theorem one_le {H : Type} (d : DataW H) : 1 ≤ Rows.uptoBulk d := by
  cases d with
  | lit l => cases l <;> simp [Rows.uptoBulk]
  | nil => simp [Rows.uptoBulk]
  | ptr d => simp [Rows.uptoBulk]
  | slice elems spare => simp [Rows.uptoBulk]
  | agg parts => simp [Rows.uptoBulk]
  | iface t d => simp [Rows.uptoBulk]
  | map entries => simp [Rows.uptoBulk]
  | held h => simp [Rows.uptoBulk]
theorem part_le {H : Type} {d : DataW H} {l : List (DataW H)} (h : d ∈ l) : Rows.uptoBulk d ≤ Rows.uptoBulkAll l := by
  induction l with
  | nil => cases h
  | cons x r ih =>
    simp only [Rows.uptoBulkAll]
    cases List.mem_cons.1 h with
    | inl e => subst e; omega
    | inr e => have := ih e; omega
theorem length_le {H : Type} (l : List (DataW H)) : l.length ≤ Rows.uptoBulkAll l := by
  induction l with
  | nil => simp [Rows.uptoBulkAll]
  | cons x r ih => have := one_le x; simp only [Rows.uptoBulkAll, List.length_cons]; omega
theorem slice_le {H : Type} (elems spare : List (DataW H)) : elems.length + 1 ≤ Rows.uptoBulk (.slice elems spare) := by
  have h1 := length_le elems
  simp only [Rows.uptoBulk]
  omega
theorem in_slice {H : Type} {d : DataW H} {elems spare : List (DataW H)} (h : d ∈ elems) : Rows.uptoBulk d ≤ Rows.uptoBulk (.slice elems spare) := by
  have h1 := part_le h
  simp only [Rows.uptoBulk]
  omega
theorem in_agg {H : Type} {d : DataW H} {parts : List (DataW H)} (h : d ∈ parts) : Rows.uptoBulk d ≤ Rows.uptoBulk (.agg parts) := by
  have h1 := part_le h
  simp only [Rows.uptoBulk]
  omega
end bulks

section
variable {H : Type} {enc : TypeId × Value → H} {P : Program} {w : World} {base : Nat} {spare : Nat → Bool} {held : Bool}
theorem open_ints {t e : TypeId} {fuel : Nat} {v : Value} {x : DataW H × List MemPlace} (ht : P.underlying t = some (.slice e)) (hi : P.underlying e = some (.int .i64)) (hc : P.cellsOf e = 1)
    (h : DataW.trod enc P w base spare held fuel t [v] = some x) :
    ∃ A n c xs, v = .slice A n c ∧ n ≤ c ∧ IntsAt w (fun b => b < w.heap.size) A n xs ∧ n ≤ Rows.uptoBulk x.1 := by
  rcases open_slice1 ht hc h with ⟨h1, rfl⟩ | ⟨a, len, cap, m, n, V, D, Pl, h1, hb, hl, hm, hmm, rfl, hx⟩
  · simp at h1; subst h1
    exact ⟨none, 0, 0, [], rfl, Nat.le_refl _, ⟨rfl, fun h => by simp at h⟩, Nat.zero_le _⟩
  · simp at h1; subst h1
    have hlm : len ≤ m := by rw [hmm]; split <;> omega
    have hV : ∀ i, i < len → ∃ z, V i = .int .i64 z ∧ I64 z := fun i hi' => by
      obtain ⟨z, hz, _, hw⟩ := DataW.trod_int hi (hx i (by omega)).2
      simp at hz
      exact ⟨z, hz, by simpa [Lit.wf, IntKind.min, IntKind.max, IntKind.signed, IntKind.bits, I64] using hw⟩
    refine ⟨some a, len, cap, (List.range len).map (fun i => intOf (V i)), rfl, hl, ⟨by simp, fun h0 => ?_⟩, ?_⟩
    · have h00 := (hx 0 (by omega)).1
      obtain ⟨b, f, s⟩ := a
      have hs : s = none := by
        cases s with
        | none => rfl
        | some s => simp [Addr.add, World.cell?] at h00; split at h00 <;> simp at h00
      subst hs
      have h00' : w.cell? ⟨b, f, none⟩ = some (V 0) := by simpa [Addr.add] using h00
      refine ⟨b, f, rfl, cell_lt h00', fun k y hk => ?_⟩
      simp only [List.getElem?_map] at hk
      have hkl : k < len := by
        rcases Nat.lt_or_ge k len with h | h
        · exact h
        · simp [h] at hk
      simp [hkl] at hk
      obtain ⟨z, hz, hzi⟩ := hV k hkl
      have hyz : y = z := by rw [← hk, hz]; rfl
      subst hyz
      refine ⟨[V k], rfl, fun j u hu => ?_, by rw [hz], hzi⟩
      match j with
      | 0 =>
        simp at hu; subst hu
        have := (hx k (by omega)).1
        unfold Addr.add at this
        by_cases hk0 : k = 0
        · subst hk0; simpa using this
        · simpa [hk0] using this
      | j + 1 => simp at hu
    · have := bulks.slice_le ((List.range len).map D) ((List.range (m - len)).map fun j => D (len + j))
      simp at this
      show len ≤ Rows.uptoBulk (DataW.slice _ _)
      omega

theorem open_key {t : TypeId} {g0 g1 : Field} {fuel : Nat} {cs : List Value} {x : DataW H × List MemPlace} (ht : P.underlying t = some (.struct #[g0, g1])) (o0 : g0.offset = 0) (o1 : g1.offset = 1)
    (c0 : P.cellsOf g0.type = 1) (c1 : P.cellsOf g1.type = 1) (i0 : P.underlying g0.type = some (.int .i64)) (i1 : P.underlying g1.type = some (.int .i64)) (hc : P.cellsOf t = 2)
    (h : DataW.trod enc P w base spare held fuel t cs = some x) : ∃ a b : Int, cs = [.int .i64 a, .int .i64 b] := by
  obtain ⟨xs, n, _, _, hl, hxl, hf⟩ := DataW.trod_struct ht h
  rw [hc] at hl
  match cs, hl with
  | [u, v], _ =>
    have h0 := hf 0 g0 rfl
    have h1 := hf 1 g1 rfl
    simp at hxl
    rw [o0, c0] at h0
    rw [o1, c1] at h1
    rw [List.getElem?_eq_getElem (by omega)] at h0 h1
    obtain ⟨a, ha, _⟩ := DataW.trod_int i0 h0
    obtain ⟨b, hb, _⟩ := DataW.trod_int i1 h1
    simp at ha hb
    exact ⟨a, b, by rw [ha, hb]⟩

theorem open_post {e ti : TypeId} {f0 f1 g0 g1 : Field} {fuel : Nat} {cs : List Value} {x : DataW H × List MemPlace} (he : P.underlying e = some (.struct #[f0, f1])) (q0 : f0.offset = 0) (q1 : f1.offset = 2)
    (d0 : P.cellsOf f0.type = 2) (d1 : P.cellsOf f1.type = 1) (hk : P.underlying f0.type = some (.struct #[g0, g1])) (o0 : g0.offset = 0) (o1 : g1.offset = 1)
    (c0 : P.cellsOf g0.type = 1) (c1 : P.cellsOf g1.type = 1) (i0 : P.underlying g0.type = some (.int .i64)) (i1 : P.underlying g1.type = some (.int .i64)) (hc : P.cellsOf e = 3)
    (ha : P.underlying f1.type = some (.slice ti)) (hi : P.underlying ti = some (.int .i64)) (ci : P.cellsOf ti = 1)
    (h : DataW.trod enc P w base spare held fuel e cs = some x) : ∃ p : Post, EPost w (fun b => b < w.heap.size) cs p ∧ p.at_.length ≤ Rows.uptoBulk x.1 := by
  obtain ⟨xs, n, _, rfl, hl, hxl, hf⟩ := DataW.trod_struct he h
  rw [hc] at hl
  match cs, hl with
  | [u, v, z], _ =>
    have h0 := hf 0 f0 rfl
    have h1 := hf 1 f1 rfl
    simp at hxl
    rw [q0, d0] at h0
    rw [q1, d1] at h1
    rw [List.getElem?_eq_getElem (by omega)] at h0 h1
    obtain ⟨a, b, hab⟩ := open_key hk o0 o1 c0 c1 i0 i1 d0 h0
    simp at hab
    obtain ⟨rfl, rfl⟩ := hab
    obtain ⟨A, m, c, zs, rfl, hmc, hin, hbk⟩ := open_ints (v := z) ha hi ci h1
    refine ⟨⟨⟨a, b⟩, zs⟩, ⟨A, m, c, rfl, hmc, hin⟩, ?_⟩
    have := bulks.in_agg (d := (xs[1]'(by omega)).1) (parts := xs.map (·.1)) (List.mem_map.2 ⟨_, List.getElem_mem _, rfl⟩)
    show zs.length ≤ _
    rw [hin.len]
    exact Nat.le_trans hbk this

theorem open_posts {t e ti : TypeId} {f0 f1 g0 g1 : Field} {fuel : Nat} {v : Value} {x : DataW H × List MemPlace} (ht : P.underlying t = some (.slice e)) (he : P.underlying e = some (.struct #[f0, f1])) (q0 : f0.offset = 0) (q1 : f1.offset = 2)
    (d0 : P.cellsOf f0.type = 2) (d1 : P.cellsOf f1.type = 1) (hk : P.underlying f0.type = some (.struct #[g0, g1])) (o0 : g0.offset = 0) (o1 : g1.offset = 1)
    (c0 : P.cellsOf g0.type = 1) (c1 : P.cellsOf g1.type = 1) (i0 : P.underlying g0.type = some (.int .i64)) (i1 : P.underlying g1.type = some (.int .i64)) (hc : P.cellsOf e = 3)
    (ha : P.underlying f1.type = some (.slice ti)) (hi : P.underlying ti = some (.int .i64)) (ci : P.cellsOf ti = 1)
    (h : DataW.trod enc P w base spare held fuel t [v] = some x) (hbk : Rows.uptoBulk x.1 ≤ 1048576) : ∃ ps, PL w v ps := by
  rcases open_slice ht h with ⟨h1, rfl⟩ | ⟨a, len, cap, m, n, D, Pl, h1, hb, hl, hm, hmm, rfl, hx⟩
  · simp at h1; subst h1
    exact ⟨[], none, 0, 0, rfl, Nat.le_refl _, by omega, ⟨rfl, fun h => by simp at h⟩, by simp⟩
  · simp at h1; subst h1
    rw [hc] at hx
    have hlm : len ≤ m := by rw [hmm]; split <;> omega
    have hbs : ∀ i, i < len → Rows.uptoBulk (D i) ≤ 1048576 := fun i hi' =>
      Nat.le_trans (bulks.in_slice (List.mem_map.2 ⟨i, List.mem_range.2 hi', rfl⟩)) hbk
    have hlen : len ≤ 1048576 := by
      have := bulks.slice_le ((List.range len).map D) ((List.range (m - len)).map fun j => D (len + j))
      simp at this
      have h2 : Rows.uptoBulk (DataW.slice ((List.range len).map D) ((List.range (m - len)).map fun j => D (len + j))) ≤ 1048576 := hbk
      omega
    have hP : ∀ i, ∃ p : Post, i < len → ∃ cs, cs.length = 3 ∧ (∀ j u, cs[j]? = some u → w.cell? ((a.add (i * 3)).add j) = some u) ∧ EPost w (fun b => b < w.heap.size) cs p ∧ p.at_.length ≤ 1048576 := fun i => by
      by_cases hil : i < len
      · obtain ⟨cs, hcs, ht'⟩ := hx i (by omega)
        obtain ⟨p, hp, hpl⟩ := open_post he q0 q1 d0 d1 hk o0 o1 c0 c1 i0 i1 hc ha hi ci ht'
        obtain ⟨_, hcl, hat⟩ := World.cells?_some hcs
        refine ⟨p, fun _ => ⟨cs, hcl, fun j u hu => ?_, hp, Nat.le_trans hpl (hbs i hil)⟩⟩
        have hj : j < 3 := by rw [← hcl]; exact (List.getElem?_eq_some_iff.1 hu).1
        rw [hat j hj]; exact hu
      · exact ⟨⟨⟨0, 0⟩, []⟩, fun h => absurd h hil⟩
    let F : Nat → Post := fun i => (hP i).choose
    have hF : ∀ i, i < len → ∃ cs, cs.length = 3 ∧ (∀ j u, cs[j]? = some u → w.cell? ((a.add (i * 3)).add j) = some u) ∧ EPost w (fun b => b < w.heap.size) cs (F i) ∧ (F i).at_.length ≤ 1048576 := fun i => (hP i).choose_spec
    refine ⟨(List.range len).map F, some a, len, cap, rfl, hl, hlen, ⟨by simp, fun h0 => ?_⟩, fun q hq => ?_⟩
    · obtain ⟨cs0, l0, c00, _⟩ := hF 0 (by omega)
      have h00 := c00 0 _ (List.getElem?_eq_getElem (by omega))
      obtain ⟨b, f, s⟩ := a
      have hs : s = none := by
        cases s with
        | none => rfl
        | some s => simp [Addr.add, World.cell?] at h00; split at h00 <;> simp at h00
      subst hs
      have h00' : w.cell? ⟨b, f, none⟩ = some (cs0[0]'(by omega)) := by simpa [Addr.add] using h00
      refine ⟨b, f, rfl, cell_lt h00', fun k y hk => ?_⟩
      have hkl : k < len := by
        rcases Nat.lt_or_ge k len with h | h
        · exact h
        · simp [h] at hk
      simp [hkl] at hk
      obtain ⟨cs, hl3, hcc, hep, _⟩ := hF k hkl
      subst hk
      refine ⟨cs, hl3, fun j u hu => ?_, hep⟩
      have := hcc j u hu
      rw [Go.Deep.add_add] at this
      unfold Addr.add at this
      by_cases hz : k * 3 + j = 0
      · have e1 : f + k * 3 + j = f := by omega
        rw [e1]; simpa [hz] using this
      · have h2 : ¬ (k * 3 = 0 ∧ j = 0) := fun h => hz (by omega)
        rw [if_neg (by omega)] at this
        simpa [Nat.add_assoc] using this
    · obtain ⟨i, hi', rfl⟩ := List.mem_map.1 hq
      obtain ⟨_, _, _, _, h5⟩ := hF i (List.mem_range.1 hi')
      exact h5
end
end Go.Proofs.Ytajggbekljohpaa
