/- From a row of the call's own to the sort's words and back, at elements of k cells; worlds that only grew. No program. -/
import Derived.Test.YtajggbekljohpaaMem
import Derived.Shelf.SlSortCmp.WholeK
namespace Go.Proofs.Ytajggbekljohpaa
open Go.RowKit Go.Sort Go.Proofs

theorem length_flat {α : Type} (enc : α → List Value) (k : Nat) (hk : ∀ x, (enc x).length = k) (l : List α) : (l.flatMap enc).length = l.length * k := by
  induction l with
  | nil => simp
  | cons x r ih => rw [List.flatMap_cons, List.length_append, hk, ih, List.length_cons, Nat.add_mul]; omega
theorem flatK_list {α : Type} [Inhabited α] (enc : α → List Value) (k : Nat) (hk : ∀ x, (enc x).length = k) (d : Array α) : (flatK enc k d).toList = d.toList.flatMap enc := by
  apply List.ext_getElem?
  intro t
  by_cases ht : t < d.size * k
  · have h1 : (flatK enc k d).toList[t]? = some ((flatK enc k d)[t]!) := by
      rw [Array.getElem?_toList, Array.getElem?_eq_getElem (by simpa using ht), getElem!_pos _ t (by simpa using ht)]
    rw [h1, get_flatK enc k d t ht]
    have k0 : 0 < k := by rcases Nat.eq_zero_or_pos k with h | h; (· subst h; simp at ht); exact h
    obtain ⟨l⟩ := d
    simp only [List.size_toArray] at ht
    clear h1
    induction l generalizing t with
    | nil => simp at ht
    | cons x r ih =>
      simp only [List.flatMap_cons]
      by_cases hlt : t < k
      · rw [List.getElem?_append_left (by rw [hk]; exact hlt), Nat.div_eq_of_lt hlt, Nat.mod_eq_of_lt hlt]
        have h2 : t < (enc x).length := by rw [hk]; exact hlt
        rw [List.getElem?_eq_getElem h2]
        congr 1
        show (enc x)[t]! = _
        rw [getElem!_pos _ t h2]
      · obtain ⟨s, rfl⟩ : ∃ s, t = k + s := ⟨t - k, by omega⟩
        rw [List.getElem?_append_right (by rw [hk]; omega), hk, Nat.add_sub_cancel_left]
        have h3 : (k + s) / k = s / k + 1 := by rw [Nat.add_comm, Nat.add_div_right _ k0]
        have h4 : (k + s) % k = s % k := by rw [Nat.add_mod_left]
        rw [h3, h4]
        have := ih s (by simp only [List.length_cons, Nat.add_mul] at ht; omega)
        rw [← this]
        have e : (⟨x :: r⟩ : Array α)[s / k + 1]! = (⟨r⟩ : Array α)[s / k]! := by
          show ((x :: r).toArray)[s / k + 1]! = (r.toArray)[s / k]!
          simp
        rw [e]
  · rw [List.getElem?_eq_none (by simpa using ht), List.getElem?_eq_none]
    rw [length_flat enc k hk, Array.length_toList]; omega
theorem take_putId (cur : Array Value) (F : Array Value) (h : F.size ≤ cur.size) : (putCells id 0 F cur).toList.take F.size = F.toList := by
  apply List.ext_getElem?
  intro t
  by_cases ht : t < F.size
  · rw [List.getElem?_take_of_lt ht, Array.getElem?_toList, Array.getElem?_toList]
    simp only [putCells, Array.getElem?_mapIdx]
    rw [Array.getElem?_eq_getElem (show t < cur.size by omega), Array.getElem?_eq_getElem ht]
    simp [ht]
  · rw [List.getElem?_eq_none (by simp; omega), List.getElem?_eq_none (by simp; omega)]
section
variable {α : Type} [Inhabited α] {enc : α → List Value} {k : Nat}
/-- what the sort asks of a row of the call's own -/
theorem holdsK_own (hk : ∀ x, (enc x).length = k) {w : World} {base : Nat} {e : TypeId} {g n cap : Nat} {xs : List α} (h : w.ownsRow base e k (.slice (some ⟨g, 0, none⟩) n cap) n (xs.flatMap enc)) (hl : xs.length = n) : HoldsK enc k w g 0 xs.toArray := by
  rcases h.2 with ⟨h0, _⟩ | ⟨g', cap', cur, hv, hb, hh, h1, h2, h3, h4⟩
  · cases h0
  · cases hv
    intro j hj
    simp only [size_flatK, List.size_toArray, hl] at hj
    refine ⟨?_, by simp [World.frozen?, hh]⟩
    have hf := flatK_list enc k hk xs.toArray
    have hj2 : j < (flatK enc k xs.toArray).size := by simpa [hl] using hj
    rw [getElem!_pos _ j hj2]
    have h5 : (flatK enc k xs.toArray).toList[j]? = some (flatK enc k xs.toArray)[j] := by rw [Array.getElem?_toList, Array.getElem?_eq_getElem hj2]
    rw [hf, ← h4, List.getElem?_take_of_lt hj, Array.getElem?_toList] at h5
    rw [World.cell?, hh]
    simpa using h5
/-- behind the sort the same slice owns the sorted list -/
theorem own_sortedK (hk : ∀ x, (enc x).length = k) {w : World} {base : Nat} {e : TypeId} {g n cap m : Nat} {os : Array Obj} {xs ys : List α} (h : w.ownsRow base e k (.slice (some ⟨g, 0, none⟩) n cap) n (xs.flatMap enc)) (hl : ys.length = n) :
    (sortWorldK enc k w g 0 m ys.toArray os).ownsRow base e k (.slice (some ⟨g, 0, none⟩) n cap) n (ys.flatMap enc) ∧ w.grownBy (sortWorldK enc k w g 0 m ys.toArray os) (some g) := by
  rcases h.2 with ⟨h0, _⟩ | ⟨g', cap', cur, hv, hb, hh, h1, h2, h3, h4⟩
  · cases h0
  · cases hv
    have hg : g < w.heap.size := by
      rcases Nat.lt_or_ge g w.heap.size with h5 | h5
      · exact h5
      · rw [Array.getElem?_eq_none h5] at hh; cases hh
    have hf := flatK_list enc k hk ys.toArray
    have hfs : (flatK enc k ys.toArray).size = n * k := by simp [hl]
    have hle : n * k ≤ cur.size := by rw [h3]; exact Nat.mul_le_mul_right _ h1
    refine ⟨⟨?_, .inr ⟨g, cap, putCells id 0 (flatK enc k ys.toArray) cur, rfl, hb, ?_, h1, h2, by simp [putCells, h3], ?_⟩⟩, rfl, rfl, rfl, ?_, fun j hj hne => ?_⟩
    · rw [show ys.flatMap enc = (flatK enc k ys.toArray).toList from hf.symm, Array.length_toList, hfs]
    · unfold sortWorldK grow putRowK putRow mapBlock
      simp only [Array.getElem?_append, Array.size_modify, Sort.ahead, if_pos hg, Array.getElem?_modify, hh]
      rfl
    · rw [show ys.flatMap enc = (flatK enc k ys.toArray).toList from hf.symm, ← hfs]
      exact take_putId cur _ (by rw [hfs]; exact hle)
    · simp [sortWorldK, grow, putRowK, putRow, mapBlock, Sort.ahead]
    · unfold sortWorldK grow putRowK putRow mapBlock
      have hjg : ¬ g = j := fun e => hne (by rw [e])
      simp only [Array.getElem?_append, Array.size_modify, Sort.ahead, if_pos hj, Array.getElem?_modify, if_neg hjg]
end
/-- a world that only grew, and drew -/
def Gr (W w' : World) : Prop := ∃ q os, w' = grow (W.drewN q) os
theorem Gr.refl (W : World) : Gr W W := ⟨0, #[], by simp; rfl⟩
theorem Gr.alloc {W w : World} (h : Gr W w) (o : Obj) : Gr W (w.alloc o) := by
  obtain ⟨q, os, rfl⟩ := h
  exact ⟨q, os ++ #[o], by rw [alloc_eq_grow, grow_grow]⟩
theorem Gr.trans {A B C : World} (h : Gr A B) (k : Gr B C) : Gr A C := by
  obtain ⟨q, os, rfl⟩ := h
  obtain ⟨p, os', rfl⟩ := k
  exact ⟨q + p, os ++ os', by
    rw [show (grow (A.drewN q) os).drewN p = grow (A.drewN (q + p)) os from by
      simp only [grow, World.drewN, Nat.add_assoc], grow_grow]⟩
theorem Gr.drewN {W w : World} (h : Gr W w) (n : Nat) : Gr W (w.drewN n) := h.trans ⟨n, #[], by simp⟩
theorem Gr.below {W w : World} (h : Gr W w) : Below W.heap.size W w := by
  obtain ⟨q, os, rfl⟩ := h
  refine ⟨rfl, rfl, rfl, by simp [grow, World.drewN], fun k hk => ?_⟩
  simp only [grow, World.drewN, Array.getElem?_append]
  rw [if_pos hk]
end Go.Proofs.Ytajggbekljohpaa
