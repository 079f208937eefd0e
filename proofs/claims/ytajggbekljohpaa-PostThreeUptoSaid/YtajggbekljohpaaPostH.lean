/- Keys sorted: post.Or's closure, slices.SortFunc at keys. -/
import Derived.Test.YtajggbekljohpaaPostE
import Derived.Test.YtajggbekljohpaaSort
import Derived.Test.YtajggbekljohpaaLay
import Derived.Shelf.SlSortCmp.NoneTotal
namespace Go.Proofs.Ytajggbekljohpaa
open Go.RowKit Go.Sort Go.Proofs

instance : Inhabited Key := ⟨⟨0, 0⟩⟩
def encKey (k : Key) : List Value := [.int .i64 k.o, .int .i64 k.s]
theorem keyCells_enc (ks : List Key) : keyCells ks = ks.flatMap encKey := rfl

theorem before_gr (a b : Key) (w : World) :
    Calls Try.prog 12 #[.agg #[.int .i64 a.o, .int .i64 a.s], .agg #[.int .i64 b.o, .int .i64 b.s]] w fun e w' => e = .returned (.bool (kLt a b)) ∧ Gr w w' := by
  obtain ⟨ao, asq⟩ := a
  obtain ⟨bo, bsq⟩ := b
  by_cases h : ao = bo
  · subst h
    go_enter Try.func12, Try.ntmps12
    go_wp2
    go_ret
    exact ⟨by simp [kLt], ((Gr.refl _).alloc _).alloc _⟩
  · have h2 : (ao == bo) = false := by simpa using h
    go_enter Try.func12, Try.ntmps12
    go_wp2
    go_ret
    exact ⟨by simp [kLt, h], ((Gr.refl _).alloc _).alloc _⟩

theorem order_gr (p : Post) (k : Key) (v : Value) (w : World) :
    Calls Try.prog 21 #[.agg #[.int .i64 p.k.o, .int .i64 p.k.s, v], .agg #[.int .i64 k.o, .int .i64 k.s]] w fun e w' => e = .returned (.int .i64 (kCmp p.k k)) ∧ Gr w w' := by
  by_cases h1 : kLt p.k k = true
  · have e : Hid (kCmp p.k k = -1) := hid (by simp [kCmp, h1])
    go_enter Try.func21, Try.ntmps21
    go_wp2_with (go_at_call 12; refine (before_gr _ _ _).mono ?_; rintro e w1 ⟨rfl, hb⟩)
    go_ret
    exact ⟨by rw [e.out]; rfl, (((Gr.refl _).alloc _).alloc _).trans hb⟩
  · have h1' : kLt p.k k = false := by simpa using h1
    clear h1
    by_cases h2 : kLt k p.k = true
    · have e : Hid (kCmp p.k k = 1) := hid (by simp [kCmp, h1', h2])
      go_enter Try.func21, Try.ntmps21
      go_wp2_with fail
      refine (before_gr _ _ _).mono ?_; rintro e w1 ⟨rfl, hb⟩
      obtain ⟨hc, hf⟩ := bcell hb.below
      go_wp2_with fail
      refine (before_gr _ _ _).mono ?_; rintro e w2 ⟨rfl, hb2⟩
      go_wp2
      go_ret
      exact ⟨by rw [e.out]; rfl, ((((Gr.refl _).alloc _).alloc _).trans hb).trans hb2⟩
    · have h2' : kLt k p.k = false := by simpa using h2
      clear h2
      have e : Hid (kCmp p.k k = 0) := hid (by simp [kCmp, h1', h2'])
      go_enter Try.func21, Try.ntmps21
      go_wp2_with fail
      refine (before_gr _ _ _).mono ?_; rintro e w1 ⟨rfl, hb⟩
      obtain ⟨hc, hf⟩ := bcell hb.below
      go_wp2_with fail
      refine (before_gr _ _ _).mono ?_; rintro e w2 ⟨rfl, hb2⟩
      go_wp2
      go_ret
      exact ⟨by rw [e.out]; rfl, ((((Gr.refl _).alloc _).alloc _).trans hb).trans hb2⟩

theorem or1_gr (a b : Key) (w : World) :
    Calls Try.prog 20 #[.agg #[.int .i64 a.o, .int .i64 a.s], .agg #[.int .i64 b.o, .int .i64 b.s]] w fun e w' => e = .returned (.int .i64 (kCmp a b)) ∧ Gr w w' := by
  go_enter Try.func20, Try.ntmps20
  go_wp2_with (go_at_call 21; refine (order_gr ⟨a, []⟩ b _ _).mono ?_; rintro e w1 ⟨rfl, hb⟩)
  go_ret
  exact ⟨rfl, (((Gr.refl _).alloc _).alloc _).trans hb⟩

theorem ltOf_kCmp (a b : Key) : ltOf kCmp a b = kLt a b := by unfold ltOf; unfold kCmp; cases h : kLt a b <;> simp; split <;> decide
theorem swo_key : SWO (ltOf kCmp) where
  irrefl x := by rw [ltOf_kCmp]; unfold kLt; simp
  trans x y z h1 h2 := by rw [ltOf_kCmp] at *; rw [kLt_iff] at *; omega
  ntrans x y z h1 h2 := by rw [ltOf_kCmp] at *; rw [Bool.eq_false_iff, ne_eq, kLt_iff] at *; omega
/-- keys in order -/
def sortD (ks : List Key) : List Key := ks.mergeSort fun x y => !(ltOf kCmp) y x
theorem keyAgg : ∀ w, (isAgg 32).run Try.prog w = .ok true w := fun w => by simp [isAgg, go_sem]
theorem keySize : ∀ w, (Go.sizeOf 32).run Try.prog w = .ok 2 w := fun w => by simp [go_sem]

theorem sort_any (v : Value) (base : Nat) (ks : List Key) (w : World) (ho : OwnKeys w base v ks) (hn : ks.length ≤ 4611686018427387903) :
    Calls Try.prog 19 #[v, .func (.func 20) #[] #[]] w fun e w' => e = .returned (.tuple #[]) ∧ OwnKeys w' base v (sortD ks) ∧ w.grownBy w' v.ownBlock := by
  have hnone : ∀ (A : Option Addr) (cap : Nat), Calls Try.prog 19 #[.slice A 0 cap, .func (.func 20) #[] #[]] w fun e w' => e = .returned (.tuple #[]) ∧ w' = w :=
    fun A cap => AnyF.slices_SortFunc_none (P := Try.prog) (ρ := Try.sortKeys_ren) { Try.sortKeys with } A cap (.func (.func 20) #[] #[]) w
  rcases Nat.eq_zero_or_pos ks.length with h0 | h0
  · have hks : ks = [] := List.eq_nil_of_length_eq_zero h0
    subst hks
    have hs0 : sortD [] = [] := by simp [sortD]
    rcases ho.2 with ⟨rfl, _⟩ | ⟨g, cap, cur, rfl, _⟩
    · exact (hnone none 0).mono fun e w' ⟨he, hw⟩ => ⟨he, by subst hw; rw [hs0]; exact ho, by subst hw; exact World.grownBy.refl _ _⟩
    · exact (hnone _ cap).mono fun e w' ⟨he, hw⟩ => ⟨he, by subst hw; rw [hs0]; exact ho, by subst hw; exact World.grownBy.refl _ _⟩
  · rcases ho.2 with ⟨_, hz⟩ | ⟨g, cap, cur, rfl, hb, hh, _⟩
    · omega
    · have hg : g < w.heap.size := by
        rcases Nat.lt_or_ge g w.heap.size with h5 | h5
        · exact h5
        · rw [Array.getElem?_eq_none h5] at hh; cases hh
      have eg : ∀ args w, (callFunc 20 args).run Try.prog w = .ok (.enter 20 args) w := enters_of Try.func20 (by kernel_rfl) rfl
      have hH : HoldsK encKey 2 w g 0 ks.toArray := holdsK_own (enc := encKey) (fun _ => rfl) ho rfl
      have hcon := AnyQ.slices_SortFunc_total (P := Try.prog) (ρ := Try.sortKeys_ren) { Try.sortKeys with } 2 keyAgg keySize encKey (fun _ => rfl) (fun x v hv => by simp [encKey] at hv; rcases hv with rfl | rfl <;> rfl) kCmp swo_key 20 #[] g 0 cap ks.toArray w eg
        (fun m os dk _ x y => or1_gr x y _) hH hg (by simp; omega) (fun x y h1 h2 => by
          rw [ltOf_kCmp, Bool.eq_false_iff, ne_eq, kLt_iff] at h1 h2
          obtain ⟨a, b⟩ := x; obtain ⟨c, d⟩ := y
          simp only [Key.mk.injEq]; simp only at h1 h2; omega)
      refine hcon.mono fun e w' ⟨he, n, os, hw⟩ => ⟨he, ?_⟩
      subst hw
      have hlen : (sortD ks).length = ks.length := (List.mergeSort_perm ks _).length_eq
      have := own_sortedK (enc := encKey) (m := n) (os := os) (fun _ => rfl) ho hlen
      refine ⟨?_, this.2⟩
      unfold OwnKeys
      rw [hlen]
      exact this.1
end Go.Proofs.Ytajggbekljohpaa
