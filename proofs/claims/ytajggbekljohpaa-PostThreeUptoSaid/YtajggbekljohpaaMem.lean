/- How slices of numbers, keys, posts and slices of posts lie in memory: words and plain lemmas, no program. -/
import Derived.WalkKit
import Derived.Lib.Hide
import Derived.Deep.Draws
namespace Go.Proofs.Ytajggbekljohpaa
open Go.RowKit

theorem hid {p : Prop} (h : p) : Hid p := h

theorem bl_drewN {B : Nat} {a w : World} (h : Below B a w) (n : Nat) : Below B a (w.drewN n) := ⟨h.os, h.tape, h.output, h.size, h.block⟩

/-- The blocks of S are in w' as they were in w. -/
def Keep (S : Nat → Prop) (w w' : World) : Prop := ∀ b, S b → w'.heap[b]? = w.heap[b]?
theorem Keep.refl (S : Nat → Prop) (w : World) : Keep S w w := fun _ _ => rfl
theorem Keep.trans {S : Nat → Prop} {a b c : World} (h : Keep S a b) (k : Keep S b c) : Keep S a c := fun i hi => (k i hi).trans (h i hi)
theorem Keep.mono {S T : Nat → Prop} {a b : World} (h : Keep S a b) (hs : ∀ i, T i → S i) : Keep T a b := fun i hi => h i (hs i hi)
theorem Keep.of_below {B : Nat} {S : Nat → Prop} {w w' : World} (h : Below B w w') (hs : ∀ b, S b → b < B) : Keep S w w' := fun b hb => h.block b (hs b hb)
theorem Keep.alloc {S : Nat → Prop} {w w' : World} (h : Keep S w w') (hs : ∀ b, S b → b < w'.heap.size) (o : Obj) : Keep S w (w'.alloc o) := fun b hb => (Below.heap_alloc w' o b (hs b hb)).trans (h b hb)
theorem Keep.drew {S : Nat → Prop} {w w' : World} (h : Keep S w w') : Keep S w w'.drew := h
theorem Keep.drewN {S : Nat → Prop} {w w' : World} (h : Keep S w w') (n : Nat) : Keep S w (w'.drewN n) := h
theorem Keep.cell {S : Nat → Prop} {w w' : World} (h : Keep S w w') {b f : Nat} (hb : S b) : w'.cell? ⟨b, f, none⟩ = w.cell? ⟨b, f, none⟩ := World.cell?_of_block (w := w) (h b hb)

/-- A slice value that reads as the list xs: sz cells an element, E tells how an element's cells read; it lies in blocks of S. -/
def SliceAt {α : Type} (sz : Nat) (E : World → (Nat → Prop) → List Value → α → Prop) (w : World) (S : Nat → Prop) (A : Option Addr) (n : Nat) (xs : List α) : Prop :=
  xs.length = n ∧ (0 < n → ∃ b f, A = some ⟨b, f, none⟩ ∧ S b ∧
    ∀ k x, xs[k]? = some x → ∃ cs, cs.length = sz ∧ (∀ j u, cs[j]? = some u → w.cell? ⟨b, f + k * sz + j, none⟩ = some u) ∧ E w S cs x)

section
variable {α : Type} {sz : Nat} {E : World → (Nat → Prop) → List Value → α → Prop} {w w' : World} {S T : Nat → Prop} {A : Option Addr} {n : Nat} {xs : List α}
theorem SliceAt.len (h : SliceAt sz E w S A n xs) : xs.length = n := h.1
theorem SliceAt.keep (h : SliceAt sz E w S A n xs) (hk : Keep S w w') (hE : ∀ cs x, E w S cs x → E w' S cs x) : SliceAt sz E w' S A n xs := by
  refine ⟨h.1, fun hn => ?_⟩
  obtain ⟨b, f, hA, hb, hx⟩ := h.2 hn
  refine ⟨b, f, hA, hb, fun k x hkx => ?_⟩
  obtain ⟨cs, hl, hc, he⟩ := hx k x hkx
  exact ⟨cs, hl, fun j u hu => (hk.cell hb).trans (hc j u hu), hE _ _ he⟩
theorem SliceAt.more (h : SliceAt sz E w S A n xs) (hs : ∀ b, S b → T b) (hE : ∀ cs x, E w S cs x → E w T cs x) : SliceAt sz E w T A n xs := by
  refine ⟨h.1, fun hn => ?_⟩
  obtain ⟨b, f, hA, hb, hx⟩ := h.2 hn
  refine ⟨b, f, hA, hs b hb, fun k x hkx => ?_⟩
  obtain ⟨cs, hl, hc, he⟩ := hx k x hkx
  exact ⟨cs, hl, hc, hE _ _ he⟩
theorem SliceAt.nil_ : SliceAt sz E w S A 0 ([] : List α) := ⟨rfl, fun h => absurd h (by omega)⟩
theorem SliceAt.eq_nil (h : SliceAt sz E w S A 0 xs) : xs = [] := List.eq_nil_of_length_eq_zero h.1
/-- the element at k, the rest behind it -/
theorem SliceAt.get {k : Nat} (h : SliceAt sz E w S A n xs) (hk : k < n) :
    ∃ b f cs x, A = some ⟨b, f, none⟩ ∧ S b ∧ cs.length = sz ∧ (∀ j u, cs[j]? = some u → w.cell? ⟨b, f + k * sz + j, none⟩ = some u) ∧ E w S cs x ∧ xs[k]? = some x ∧ xs.drop k = x :: xs.drop (k + 1) := by
  obtain ⟨b, f, hA, hb, hx⟩ := h.2 (by omega)
  have hl : k < xs.length := by rw [h.1]; exact hk
  obtain ⟨cs, hcl, hc, he⟩ := hx k xs[k] (List.getElem?_eq_getElem hl)
  exact ⟨b, f, cs, xs[k], hA, hb, hcl, hc, he, List.getElem?_eq_getElem hl, List.drop_eq_getElem_cons hl⟩
/-- behind the first m elements -/
theorem SliceAt.cut {m : Nat} (h : SliceAt sz E w S A n xs) (hm : m ≤ n) {c : Nat} (hc : n ≤ c) :
    SliceAt sz E w S (if c = m then A else A.map (·.add (m * sz))) (n - m) (xs.drop m) := by
  refine ⟨by rw [List.length_drop, h.1], fun hn => ?_⟩
  obtain ⟨b, f, hA, hb, hx⟩ := h.2 (by omega)
  subst hA
  rw [if_neg (by omega)]
  refine ⟨b, f + m * sz, ?_, hb, fun k x hkx => ?_⟩
  · simp only [Option.map_some, Addr.add]
    split
    · rename_i h0; simp [h0]
    · rfl
  · rw [List.getElem?_drop] at hkx
    obtain ⟨cs, hl, hcs, he⟩ := hx _ x hkx
    refine ⟨cs, hl, fun j u hu => ?_, he⟩
    have e : f + m * sz + k * sz + j = f + (m + k) * sz + j := by rw [Nat.add_mul]; omega
    rw [e]; exact hcs j u hu
end

/-- a whole number of 64 bits -/
def I64 (x : Int) : Prop := -9223372036854775808 ≤ x ∧ x ≤ 9223372036854775807

def EInt (_ : World) (_ : Nat → Prop) (cs : List Value) (x : Int) : Prop := cs = [.int .i64 x] ∧ I64 x
abbrev IntsAt := SliceAt 1 EInt

structure Key where
  o : Int
  s : Int
deriving DecidableEq
structure Post where
  k : Key
  at_ : List Int
def EKey (_ : World) (_ : Nat → Prop) (cs : List Value) (x : Key) : Prop := cs = [.int .i64 x.o, .int .i64 x.s]
abbrev KeysAt := SliceAt 2 EKey
def EPost (w : World) (S : Nat → Prop) (cs : List Value) (x : Post) : Prop := ∃ A m c, cs = [.int .i64 x.k.o, .int .i64 x.k.s, .slice A m c] ∧ m ≤ c ∧ IntsAt w S A m x.at_
abbrev PostsAt := SliceAt 3 EPost
def ERow (w : World) (S : Nat → Prop) (cs : List Value) (x : List Post) : Prop := ∃ A m c, cs = [.slice A m c] ∧ m ≤ c ∧ PostsAt w S A m x
abbrev RowsAt := SliceAt 1 ERow

section
variable {w w' : World} {S T : Nat → Prop} {A : Option Addr} {n k : Nat}
theorem ints_keep {xs : List Int} (h : IntsAt w S A n xs) (hk : Keep S w w') : IntsAt w' S A n xs := h.keep hk fun _ _ e => e
theorem ints_more {xs : List Int} (h : IntsAt w S A n xs) (hs : ∀ b, S b → T b) : IntsAt w T A n xs := h.more hs fun _ _ e => e
theorem keys_keep {xs : List Key} (h : KeysAt w S A n xs) (hk : Keep S w w') : KeysAt w' S A n xs := h.keep hk fun _ _ e => e
theorem keys_more {xs : List Key} (h : KeysAt w S A n xs) (hs : ∀ b, S b → T b) : KeysAt w T A n xs := h.more hs fun _ _ e => e
theorem epost_keep {cs : List Value} {x : Post} (h : EPost w S cs x) (hk : Keep S w w') : EPost w' S cs x := by
  obtain ⟨A, m, c, h1, h2, h3⟩ := h
  exact ⟨A, m, c, h1, h2, ints_keep h3 hk⟩
theorem epost_more {cs : List Value} {x : Post} (h : EPost w S cs x) (hs : ∀ b, S b → T b) : EPost w T cs x := by
  obtain ⟨A, m, c, h1, h2, h3⟩ := h
  exact ⟨A, m, c, h1, h2, ints_more h3 hs⟩
theorem posts_keep {xs : List Post} (h : PostsAt w S A n xs) (hk : Keep S w w') : PostsAt w' S A n xs := h.keep hk fun _ _ e => epost_keep e hk
theorem posts_more {xs : List Post} (h : PostsAt w S A n xs) (hs : ∀ b, S b → T b) : PostsAt w T A n xs := h.more hs fun _ _ e => epost_more e hs
theorem rows_keep {xs : List (List Post)} (h : RowsAt w S A n xs) (hk : Keep S w w') : RowsAt w' S A n xs := h.keep hk fun _ _ e => by
  obtain ⟨A, m, c, h1, h2, h3⟩ := e
  exact ⟨A, m, c, h1, h2, posts_keep h3 hk⟩
theorem rows_more {xs : List (List Post)} (h : RowsAt w S A n xs) (hs : ∀ b, S b → T b) : RowsAt w T A n xs := h.more hs fun _ _ e => by
  obtain ⟨A, m, c, h1, h2, h3⟩ := e
  exact ⟨A, m, c, h1, h2, posts_more h3 hs⟩
theorem ints_get {xs : List Int} (h : IntsAt w S A n xs) (hk : k < n) :
    ∃ b f x, A = some ⟨b, f, none⟩ ∧ S b ∧ w.cell? ⟨b, f + k, none⟩ = some (.int .i64 x) ∧ I64 x ∧ xs[k]? = some x ∧ xs.drop k = x :: xs.drop (k + 1) := by
  obtain ⟨b, f, cs, x, h1, h2, h3, h4, ⟨h5, h6⟩, h7, h8⟩ := h.get hk
  subst h5
  exact ⟨b, f, x, h1, h2, by have := h4 0 _ rfl; simpa using this, h6, h7, h8⟩
theorem keys_get {xs : List Key} (h : KeysAt w S A n xs) (hk : k < n) :
    ∃ b f x, A = some ⟨b, f, none⟩ ∧ S b ∧ w.cell? ⟨b, f + k * 2, none⟩ = some (.int .i64 x.o) ∧ w.cell? ⟨b, f + k * 2 + 1, none⟩ = some (.int .i64 x.s) ∧ xs[k]? = some x ∧ xs.drop k = x :: xs.drop (k + 1) := by
  obtain ⟨b, f, cs, x, h1, h2, h3, h4, h5, h7, h8⟩ := h.get hk
  subst h5
  exact ⟨b, f, x, h1, h2, h4 0 _ rfl, h4 1 _ rfl, h7, h8⟩
theorem posts_get {xs : List Post} (h : PostsAt w S A n xs) (hk : k < n) :
    ∃ b f x A' m c, A = some ⟨b, f, none⟩ ∧ S b ∧ w.cell? ⟨b, f + k * 3, none⟩ = some (.int .i64 x.k.o) ∧ w.cell? ⟨b, f + k * 3 + 1, none⟩ = some (.int .i64 x.k.s) ∧
      w.cell? ⟨b, f + k * 3 + 2, none⟩ = some (.slice A' m c) ∧ m ≤ c ∧ IntsAt w S A' m x.at_ ∧ xs[k]? = some x ∧ xs.drop k = x :: xs.drop (k + 1) := by
  obtain ⟨b, f, cs, x, h1, h2, h3, h4, ⟨A', m, c, h5, h6, hi⟩, h7, h8⟩ := h.get hk
  subst h5
  exact ⟨b, f, x, A', m, c, h1, h2, h4 0 _ rfl, h4 1 _ rfl, h4 2 _ rfl, h6, hi, h7, h8⟩
theorem rows_get {xs : List (List Post)} (h : RowsAt w S A n xs) (hk : k < n) :
    ∃ b f x A' m c, A = some ⟨b, f, none⟩ ∧ S b ∧ w.cell? ⟨b, f + k, none⟩ = some (.slice A' m c) ∧ m ≤ c ∧ PostsAt w S A' m x ∧ xs[k]? = some x ∧ xs.drop k = x :: xs.drop (k + 1) := by
  obtain ⟨b, f, cs, x, h1, h2, h3, h4, ⟨A', m, c, h5, h6, hi⟩, h7, h8⟩ := h.get hk
  subst h5
  exact ⟨b, f, x, A', m, c, h1, h2, by have := h4 0 _ rfl; simpa using this, h6, hi, h7, h8⟩
end

/-- what a call that only makes memory leaves of what was there -/
theorem bcell {W w1 : World} (hb : Below W.heap.size W w1) : (∀ b o, b < W.heap.size → w1.cell? ⟨b, o, none⟩ = W.cell? ⟨b, o, none⟩) ∧ (∀ b o, b < W.heap.size → w1.frozen? ⟨b, o, none⟩ = W.frozen? ⟨b, o, none⟩) :=
  ⟨fun b o h => hb.cell (p := ⟨b, o, none⟩) h, fun b o h => hb.frozen (p := ⟨b, o, none⟩) h⟩
theorem grown_of_below {w w' : World} (hb : Below w.heap.size w w') (row : Option Nat) : w.grownBy w' row := ⟨hb.os, hb.tape, hb.output, hb.size, fun k hk _ => hb.block k hk⟩
theorem gb_trans {a b c : World} {row : Option Nat} (h : a.grownBy b row) (k : b.grownBy c row) : a.grownBy c row :=
  ⟨k.os.trans h.os, k.tape.trans h.tape, k.output.trans h.output, Nat.le_trans h.size k.size, fun i hi hne => (k.block i (Nat.lt_of_lt_of_le hi h.size) hne).trans (h.block i hi hne)⟩
theorem own_below {w w' : World} {base : Nat} {e : TypeId} {size : Nat} {v : Value} {n : Nat} {xs : List Value} (h : w.ownsRow base e size v n xs) (hb : Below w.heap.size w w') : w'.ownsRow base e size v n xs := by
  refine h.kept (grown_of_below hb none) ?_
  cases hv : v.ownBlock with
  | none => exact .inl rfl
  | some g => exact .inr (by simp)
theorem cells_new (w : World) (cs : List Value) (e : TypeId) : ∀ (j : Nat) (u : Value), cs[j]? = some u → (w.alloc (.cells cs.toArray e)).cell? ((⟨w.heap.size, 0, none⟩ : Addr).add j) = some u := by
  intro j u hu
  have h : (⟨w.heap.size, 0, none⟩ : Addr).add j = ⟨w.heap.size, j, none⟩ := by unfold Addr.add; split <;> simp_all
  rw [h, World.cell?, heap_alloc_new]
  simpa using hu
theorem size_alloc (w : World) (o : Obj) : (w.alloc o).heap.size = w.heap.size + 1 := by simp
theorem lt_alloc {b : Nat} {w : World} (h : b < w.heap.size) (o : Obj) : b < (w.alloc o).heap.size := by rw [size_alloc]; omega
theorem le_alloc {b : Nat} {w : World} (h : b ≤ w.heap.size) (o : Obj) : b ≤ (w.alloc o).heap.size := by rw [size_alloc]; omega
theorem own_lit {w : World} {base : Nat} (cs : List Value) (e : TypeId) (size n : Nat) (hb : base ≤ w.heap.size) (hl : cs.length = n * size) (hn : n ≤ maxLen) : (w.alloc (.cells cs.toArray e)).ownsRow base e size (.slice (some ⟨w.heap.size, 0, none⟩) n n) n cs :=
  ⟨hl, .inr ⟨w.heap.size, n, cs.toArray, rfl, hb, heap_alloc_new w _, Nat.le_refl _, hn, by simpa using hl, by rw [← hl]; simp⟩⟩
theorem own_lit_at {w : World} {base g : Nat} (hg : w.heap.size = g) (cs : List Value) (e : TypeId) (size n : Nat) (hb : base ≤ g) (hl : cs.length = n * size) (hn : n ≤ maxLen) : (w.alloc (.cells cs.toArray e)).ownsRow base e size (.slice (some ⟨g, 0, none⟩) n n) n cs := by
  subst hg; exact own_lit cs e size n hb hl hn
theorem cells_new_at (w : World) {g : Nat} (hg : w.heap.size = g) (cs : List Value) (e : TypeId) : ∀ (j : Nat) (u : Value), cs[j]? = some u → (w.alloc (.cells cs.toArray e)).cell? ((⟨g, 0, none⟩ : Addr).add j) = some u := by
  subst hg; exact cells_new w cs e
theorem ones3 (a b : Int) (A : Option Addr) (m c : Nat) : ∀ u ∈ [Value.int .i64 a, Value.int .i64 b, Value.slice A m c], u.oneCell' = true := by intro u hu; simp at hu; rcases hu with rfl | rfl | rfl <;> rfl
theorem ones2 (a b : Int) : ∀ u ∈ [Value.int .i64 a, Value.int .i64 b], u.oneCell' = true := by intro u hu; simp at hu; rcases hu with rfl | rfl <;> rfl
theorem ones1 (a : Int) : ∀ u ∈ [Value.int .i64 a], u.oneCell' = true := by intro u hu; simp at hu; subst hu; rfl
theorem cell_lt {w : World} {b f : Nat} {u : Value} (h : w.cell? ⟨b, f, none⟩ = some u) : b < w.heap.size := by
  rcases Nat.lt_or_ge b w.heap.size with h1 | h1
  · exact h1
  · simp [World.cell?, Array.getElem?_eq_none h1] at h
end Go.Proofs.Ytajggbekljohpaa
