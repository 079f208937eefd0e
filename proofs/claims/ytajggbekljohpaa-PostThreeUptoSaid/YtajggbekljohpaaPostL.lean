/- grapevinelaw10.awake answers true. -/
import Derived.Test.YtajggbekljohpaaPostK
import Derived.Test.YtajggbekljohpaaJump
namespace Go.Proofs.Ytajggbekljohpaa
open Go.RowKit

theorem ints_one {w : World} {S : Nat → Prop} {g : Nat} {x : Int} (hS : S g) (hx : I64 x) (h : w.cell? ⟨g, 0, none⟩ = some (.int .i64 x)) : IntsAt w S (some ⟨g, 0, none⟩) 1 [x] :=
  ⟨rfl, fun _ => ⟨g, 0, rfl, hS, fun k y hk => by
    match k with
    | 0 => simp at hk; subst hk; exact ⟨[.int .i64 x], rfl, fun j u hu => by match j with | 0 => simp at hu; subst hu; exact h | j + 1 => simp at hu, rfl, hx⟩
    | k + 1 => simp at hk⟩⟩
theorem ints_two {w : World} {S : Nat → Prop} {g : Nat} {x y : Int} (hS : S g) (hx : I64 x) (hy : I64 y) (h : w.cell? ⟨g, 0, none⟩ = some (.int .i64 x)) (h' : w.cell? ⟨g, 1, none⟩ = some (.int .i64 y)) : IntsAt w S (some ⟨g, 0, none⟩) 2 [x, y] :=
  ⟨rfl, fun _ => ⟨g, 0, rfl, hS, fun k z hk => by
    match k with
    | 0 => simp at hk; subst hk; exact ⟨[.int .i64 x], rfl, fun j u hu => by match j with | 0 => simp at hu; subst hu; exact h | j + 1 => simp at hu, rfl, hx⟩
    | 1 => simp at hk; subst hk; exact ⟨[.int .i64 y], rfl, fun j u hu => by match j with | 0 => simp at hu; subst hu; exact h' | j + 1 => simp at hu, rfl, hy⟩
    | k + 2 => simp at hk⟩⟩
theorem posts_one {w : World} {S : Nat → Prop} {g : Nat} {p : Post} {A : Option Addr} {m c : Nat} (hS : S g) (h0 : w.cell? ⟨g, 0, none⟩ = some (.int .i64 p.k.o)) (h1 : w.cell? ⟨g, 1, none⟩ = some (.int .i64 p.k.s)) (h2 : w.cell? ⟨g, 2, none⟩ = some (.slice A m c)) (hmc : m ≤ c) (hi : IntsAt w S A m p.at_) : PostsAt w S (some ⟨g, 0, none⟩) 1 [p] :=
  ⟨rfl, fun _ => ⟨g, 0, rfl, hS, fun k y hk => by
    match k with
    | 0 =>
      simp at hk; subst hk
      refine ⟨[.int .i64 p.k.o, .int .i64 p.k.s, .slice A m c], rfl, fun j u hu => ?_, A, m, c, rfl, hmc, hi⟩
      match j with
      | 0 => simp at hu; subst hu; exact h0
      | 1 => simp at hu; subst hu; exact h1
      | 2 => simp at hu; subst hu; exact h2
      | j + 3 => simp at hu
    | k + 1 => simp at hk⟩⟩
theorem rows_two {w : World} {S : Nat → Prop} {g : Nat} {x y : List Post} {A B : Option Addr} {n c m d : Nat} (hS : S g) (h0 : w.cell? ⟨g, 0, none⟩ = some (.slice A n c)) (h1 : w.cell? ⟨g, 1, none⟩ = some (.slice B m d)) (hn : n ≤ c) (hm : m ≤ d) (hx : PostsAt w S A n x) (hy : PostsAt w S B m y) : RowsAt w S (some ⟨g, 0, none⟩) 2 [x, y] :=
  ⟨rfl, fun _ => ⟨g, 0, rfl, hS, fun k z hk => by
    match k with
    | 0 => simp at hk; subst hk; exact ⟨[.slice A n c], rfl, fun j u hu => by match j with | 0 => simp at hu; subst hu; exact h0 | j + 1 => simp at hu, A, n, c, rfl, hn, hx⟩
    | 1 => simp at hk; subst hk; exact ⟨[.slice B m d], rfl, fun j u hu => by match j with | 0 => simp at hu; subst hu; exact h1 | j + 1 => simp at hu, B, m, d, rfl, hm, hy⟩
    | k + 2 => simp at hk⟩⟩
theorem keys_one {w : World} {S : Nat → Prop} {g : Nat} {k : Key} (hS : S g) (h0 : w.cell? ⟨g, 0, none⟩ = some (.int .i64 k.o)) (h1 : w.cell? ⟨g, 1, none⟩ = some (.int .i64 k.s)) : KeysAt w S (some ⟨g, 0, none⟩) 1 [k] :=
  ⟨rfl, fun _ => ⟨g, 0, rfl, hS, fun i y hk => by
    match i with
    | 0 =>
      simp at hk; subst hk
      refine ⟨[.int .i64 k.o, .int .i64 k.s], rfl, fun j u hu => ?_, rfl⟩
      match j with
      | 0 => simp at hu; subst hu; exact h0
      | 1 => simp at hu; subst hu; exact h1
      | j + 2 => simp at hu
    | i + 1 => simp at hk⟩⟩

/-- awake's two lists -/
def pa : Post := ⟨⟨1, 2⟩, [0, 3]⟩
def pb : Post := ⟨⟨1, 2⟩, [4]⟩
theorem aw_and : eachD (fun _ => true) [[pa], [pb]] = [⟨1, 2⟩] := by decide +kernel
theorem aw_or : orD [[pa], [pb]] = [⟨1, 2⟩] := by
  have h1 : oddB [[pa], [pb]] = false := by decide +kernel
  have h2 : sortD [⟨1, 2⟩, ⟨1, 2⟩] = [⟨1, 2⟩, ⟨1, 2⟩] := List.mergeSort_of_pairwise (by simp [ltOf_kCmp, kLt])
  have h3 : ([[pa], [pb]].flatMap fun l => l.map (·.k)) = [⟨1, 2⟩, ⟨1, 2⟩] := rfl
  unfold orD
  rw [h1, h3, h2]
  rfl
theorem aw_phrase : eachD followB [[pa], [pb]] = [⟨1, 2⟩] := by decide +kernel
theorem aw_phrase2 : eachD followB [[pb], [pa]] = [] := by decide +kernel

/-- behind awake's two lists -/
def Aw (w wx : World) (bx : Nat) (s2 s3 s6 s10 : Value) : Prop := ∃ g1 g2 h1 h2, s2 = .slice (some ⟨g1, 0, none⟩) 1 1 ∧ s3 = .slice (some ⟨g2, 0, none⟩) 1 1 ∧ s6 = .slice (some ⟨h1, 0, none⟩) 2 2 ∧ s10 = .slice (some ⟨h2, 0, none⟩) 1 1 ∧
  wx.cell? ⟨bx, 0, none⟩ = some (.int .i64 1) ∧ wx.cell? ⟨bx, 1, none⟩ = some (.int .i64 2) ∧
  wx.cell? ⟨g1, 0, none⟩ = some (.int .i64 1) ∧ wx.cell? ⟨g1, 1, none⟩ = some (.int .i64 2) ∧ wx.cell? ⟨g1, 2, none⟩ = some (.slice (some ⟨h1, 0, none⟩) 2 2) ∧
  wx.cell? ⟨g2, 0, none⟩ = some (.int .i64 1) ∧ wx.cell? ⟨g2, 1, none⟩ = some (.int .i64 2) ∧ wx.cell? ⟨g2, 2, none⟩ = some (.slice (some ⟨h2, 0, none⟩) 1 1) ∧
  wx.cell? ⟨h1, 0, none⟩ = some (.int .i64 0) ∧ wx.cell? ⟨h1, 1, none⟩ = some (.int .i64 3) ∧ wx.cell? ⟨h2, 0, none⟩ = some (.int .i64 4) ∧ Below w.heap.size w wx

/-- a slice of the one key that awake asks for -/
def RetK1 (w : World) (e : Ending) (w' : World) : Prop := ∃ g cap, e = .returned (.slice (some ⟨g, 0, none⟩) 1 cap) ∧ g < w'.heap.size ∧ w'.cell? ⟨g, 0, none⟩ = some (.int .i64 1) ∧ w'.cell? ⟨g, 1, none⟩ = some (.int .i64 2) ∧ Below w.heap.size w w'
theorem retK1_of {w w' : World} {e : Ending} (h : RetKeys [⟨1, 2⟩] w e w') : RetK1 w e w' := by
  obtain ⟨v, rfl, ho, hb⟩ := h
  obtain ⟨g, cap, rfl, _, _, _, hg, _, hk⟩ := own_keys_at ho (by simp)
  obtain ⟨b, f, x, hA, _, c0, c1, hx, _⟩ := keys_get hk (show 0 < 1 by omega)
  cases hA
  simp at hx; subst hx
  exact ⟨g, cap, rfl, hg, by simpa using c0, by simpa using c1, hb⟩
theorem retLen_of {w w' : World} {e : Ending} (h : RetKeys [] w e w') : RetLen 0 w e w' := by
  obtain ⟨v, rfl, ho, hb⟩ := h
  rcases ho.2 with ⟨rfl, _⟩ | ⟨g, cap, cur, rfl, _⟩
  · exact ⟨_, _, rfl, hb⟩
  · exact ⟨_, _, rfl, hb⟩

section
variable {W w' : World} {g1 g2 h1 h2 : Nat}
/-- the two lists lie there -/
def Lists (W : World) (g1 g2 : Nat) : Prop := PostsAt W (fun b => b < W.heap.size) (some ⟨g1, 0, none⟩) 1 [pa] ∧ PostsAt W (fun b => b < W.heap.size) (some ⟨g2, 0, none⟩) 1 [pb]
theorem lists_keep (h : Lists W g1 g2) (hb : Below W.heap.size W w') : Lists w' g1 g2 :=
  ⟨posts_more (posts_keep h.1 (Keep.of_below hb fun _ h => h)) fun _ h => Nat.lt_of_lt_of_le h hb.size, posts_more (posts_keep h.2 (Keep.of_below hb fun _ h => h)) fun _ h => Nat.lt_of_lt_of_le h hb.size⟩
theorem two_hm : ∀ l ∈ [[pa], [pb]], l.length ≤ 1048576 ∧ ∀ p ∈ l, p.at_.length ≤ 1048576 := by simp [pa, pb]
theorem two_hm' : ∀ l ∈ [[pb], [pa]], l.length ≤ 1048576 ∧ ∀ p ∈ l, p.at_.length ≤ 1048576 := by simp [pa, pb]
theorem aw_phrase_any (b c : Nat) (hl : Lists W g1 g2) (hc : 2 ≤ c) (h0 : W.cell? ⟨b, 0, none⟩ = some (.slice (some ⟨g1, 0, none⟩) 1 1)) (h1 : W.cell? ⟨b, 1, none⟩ = some (.slice (some ⟨g2, 0, none⟩) 1 1)) :
    Calls Try.prog 9 #[.slice (some ⟨b, 0, none⟩) 2 c] W (RetK1 W) :=
  (phrase_any _ 2 c [[pa], [pb]] W (fun b => b < W.heap.size) (fun _ h => h) (by omega) hc (rows_two (cell_lt h0) h0 h1 (by omega) (by omega) hl.1 hl.2) two_hm).mono fun _ _ h => retK1_of (by rw [aw_phrase] at h; exact h)
theorem aw_phrase2_any (b c : Nat) (hl : Lists W g1 g2) (hc : 2 ≤ c) (h0 : W.cell? ⟨b, 0, none⟩ = some (.slice (some ⟨g2, 0, none⟩) 1 1)) (h1 : W.cell? ⟨b, 1, none⟩ = some (.slice (some ⟨g1, 0, none⟩) 1 1)) :
    Calls Try.prog 9 #[.slice (some ⟨b, 0, none⟩) 2 c] W (RetLen 0 W) :=
  (phrase_any _ 2 c [[pb], [pa]] W (fun b => b < W.heap.size) (fun _ h => h) (by omega) hc (rows_two (cell_lt h0) h0 h1 (by omega) (by omega) hl.2 hl.1) two_hm').mono fun _ _ h => retLen_of (by rw [aw_phrase2] at h; exact h)
theorem aw_and_any (b c : Nat) (hl : Lists W g1 g2) (hc : 2 ≤ c) (h0 : W.cell? ⟨b, 0, none⟩ = some (.slice (some ⟨g1, 0, none⟩) 1 1)) (h1 : W.cell? ⟨b, 1, none⟩ = some (.slice (some ⟨g2, 0, none⟩) 1 1)) :
    Calls Try.prog 7 #[.slice (some ⟨b, 0, none⟩) 2 c] W (RetK1 W) :=
  (and_any _ 2 c [[pa], [pb]] W (fun b => b < W.heap.size) (fun _ h => h) (by omega) hc (rows_two (cell_lt h0) h0 h1 (by omega) (by omega) hl.1 hl.2) two_hm).mono fun _ _ h => retK1_of (by rw [aw_and] at h; exact h)
theorem aw_or_any (b c : Nat) (hl : Lists W g1 g2) (h0 : W.cell? ⟨b, 0, none⟩ = some (.slice (some ⟨g1, 0, none⟩) 1 1)) (h1 : W.cell? ⟨b, 1, none⟩ = some (.slice (some ⟨g2, 0, none⟩) 1 1)) :
    Calls Try.prog 8 #[.slice (some ⟨b, 0, none⟩) 2 c] W (RetK1 W) :=
  (or_any _ 2 c [[pa], [pb]] W (fun b => b < W.heap.size) (fun _ h => h) (by omega) (rows_two (cell_lt h0) h0 h1 (by omega) (by omega) hl.1 hl.2) two_hm (by simp [total])).mono fun _ _ h => retK1_of (by rw [aw_or] at h; exact h)
theorem aw_same_any (b b' c c' : Nat) (h0 : W.cell? ⟨b, 0, none⟩ = some (.int .i64 1)) (h1 : W.cell? ⟨b, 1, none⟩ = some (.int .i64 2)) (h2 : W.cell? ⟨b', 0, none⟩ = some (.int .i64 1)) (h3 : W.cell? ⟨b', 1, none⟩ = some (.int .i64 2)) :
    Calls Try.prog 13 #[.slice (some ⟨b, 0, none⟩) 1 c, .slice (some ⟨b', 0, none⟩) 1 c'] W fun e w' => e = .returned (.bool true) ∧ Below W.heap.size W w' :=
  (sameKeys_any _ _ 1 1 c c' [⟨1, 2⟩] [⟨1, 2⟩] W (fun _ => True) (fun _ => True) (by omega) (by omega) (keys_one (k := ⟨1, 2⟩) trivial h0 h1) (keys_one (k := ⟨1, 2⟩) trivial h2 h3)).mono fun _ _ ⟨he, q, hq⟩ => ⟨he, by subst hq; exact bl_drewN (Below.refl _ _) q⟩
theorem aw_less_any (b b' c c' : Nat) (h0 : W.cell? ⟨b, 0, none⟩ = some (.int .i64 1)) (h1 : W.cell? ⟨b, 1, none⟩ = some (.int .i64 2)) (h2 : W.cell? ⟨b', 0, none⟩ = some (.int .i64 1)) (h3 : W.cell? ⟨b', 1, none⟩ = some (.int .i64 2)) :
    Calls Try.prog 10 #[.slice (some ⟨b, 0, none⟩) 1 c, .slice (some ⟨b', 0, none⟩) 1 c'] W (RetLen 0 W) :=
  (less_any _ _ 1 1 c c' [⟨1, 2⟩] [⟨1, 2⟩] W (fun b => b < W.heap.size) (fun _ h => h) (by omega) (by omega) (keys_one (k := ⟨1, 2⟩) (cell_lt h0) h0 h1) (keys_one (k := ⟨1, 2⟩) (cell_lt h2) h2 h3)).mono fun _ _ h => retLen_of (by rw [show lessD [⟨1, 2⟩] [⟨1, 2⟩] = [] by decide] at h; exact h)
theorem aw_may_any (hl : Lists W g1 g2) (c : Nat) : Calls Try.prog 5 #[.slice (some ⟨g1, 0, none⟩) 1 c] W fun e w' => e = .returned (.bool true) ∧ Below W.heap.size W w' :=
  (may_any _ 1 c [pa] W (fun b => b < W.heap.size) (fun _ h => h) (by omega) hl.1 (by simp [pa])).mono fun _ _ h => by rw [show mayB [pa] = true by decide +kernel] at h; exact h
theorem aw_drop_any (hl : Lists W g1 g2) (c : Nat) : Calls Try.prog 15 #[.slice (some ⟨g1, 0, none⟩) 1 c, .agg #[.int .i64 1, .int .i64 2]] W (RetLen 0 W) :=
  dropOne_any _ c ⟨1, 2⟩ pa W (fun b => b < W.heap.size) (fun _ h => h) hl.1 (by simp [pa]) (by decide +kernel) rfl
end

/-- what a slot of awake's chain holds -/
inductive Kd where
  | is (u : Value)
  | pair (x y : Value)
  | k1
  | len (n : Nat)
  | any
def Kd.holds : Kd → Value → World → Prop
  | .is u, v, _ => v = u
  | .pair x y, v, w => ∃ b c, v = .slice (some ⟨b, 0, none⟩) 2 c ∧ 2 ≤ c ∧ w.cell? ⟨b, 0, none⟩ = some x ∧ w.cell? ⟨b, 1, none⟩ = some y
  | .k1, v, w => ∃ g c, v = .slice (some ⟨g, 0, none⟩) 1 c ∧ w.cell? ⟨g, 0, none⟩ = some (.int .i64 1) ∧ w.cell? ⟨g, 1, none⟩ = some (.int .i64 2)
  | .len n, v, _ => ∃ A c, v = .slice A n c
  | .any, _, _ => True
theorem Kd.keep {k : Kd} {v : Value} {w w' : World} (h : k.holds v w) (hb : Below w.heap.size w w') : k.holds v w' := by
  cases k with
  | is u => exact h
  | pair x y => obtain ⟨b, c, rfl, hc, h0, h1⟩ := h; exact ⟨b, c, rfl, hc, by rw [hb.cell (cell_lt h0)]; exact h0, by rw [hb.cell (cell_lt h1)]; exact h1⟩
  | k1 => obtain ⟨b, c, rfl, h0, h1⟩ := h; exact ⟨b, c, rfl, by rw [hb.cell (cell_lt h0)]; exact h0, by rw [hb.cell (cell_lt h1)]; exact h1⟩
  | len n => exact h
  | any => trivial
abbrev SL (g n : Nat) : Value := .slice (some ⟨g, 0, none⟩) n n
abbrev KEY : Value := .agg #[.int .i64 1, .int .i64 2]
abbrev TT : Kd := .is (.bool true)
def kd (bx g1 g2 h1 : Nat) : Nat → Kd
  | 1 => .is (.pointer (some ⟨bx, 0, none⟩))
  | 2 => .is (SL g1 1)
  | 3 => .is (SL g2 1)
  | 0 => TT
  | 13 => .is (SL g1 1)
  | 14 => .is (SL g2 1)
  | 15 => .pair (SL g1 1) (SL g2 1)
  | 16 => .k1
  | 17 => .is KEY
  | 18 => .k1
  | 19 => TT
  | 20 => TT
  | 21 => .is (SL g2 1)
  | 22 => .is (SL g1 1)
  | 23 => .pair (SL g2 1) (SL g1 1)
  | 24 => .len 0
  | 25 => .is (.int .i64 0)
  | 26 => TT
  | 27 => TT
  | 28 => TT
  | 29 => .is (SL g1 1)
  | 30 => .is (SL g2 1)
  | 31 => .pair (SL g1 1) (SL g2 1)
  | 32 => .k1
  | 33 => .is KEY
  | 34 => .k1
  | 35 => TT
  | 36 => TT
  | 37 => TT
  | 38 => .is (SL g1 1)
  | 39 => .is (SL g2 1)
  | 40 => .pair (SL g1 1) (SL g2 1)
  | 41 => .k1
  | 42 => .is KEY
  | 43 => .k1
  | 44 => TT
  | 45 => TT
  | 46 => TT
  | 47 => .is (SL g1 1)
  | 48 => TT
  | 49 => TT
  | 50 => TT
  | 51 => .is KEY
  | 52 => .k1
  | 53 => .is KEY
  | 54 => .k1
  | 55 => .len 0
  | 56 => .is (.int .i64 0)
  | 57 => TT
  | 58 => TT
  | 59 => TT
  | 60 => .is (SL g1 1)
  | 61 => .is (.pointer (some ⟨g1, 0, none⟩))
  | 62 => .is (.agg #[.int .i64 1, .int .i64 2, SL h1 2])
  | 63 => .len 1
  | 64 => .is (.int .i64 1)
  | 65 => TT
  | 66 => TT
  | 67 => TT
  | 68 => .is (SL g1 1)
  | 69 => .is KEY
  | 70 => .len 0
  | 71 => .is (.int .i64 0)
  | 72 => TT
  | 73 => TT
  | _ => .any

set_option maxRecDepth 100000 in
set_option maxHeartbeats 3200000 in
theorem awake_any (w : World) : Calls Try.prog 6 #[] w fun e w' => e = .returned (.bool true) ∧ Below w.heap.size w w' := by
  go_enter Try.func6, Try.ntmps6
  go_upto_region 2 with (fail)
  go_cut [2, 3, 6, 10] (fun s2 s3 s6 s10 wx => Aw w wx w.heap.size s2 s3 s6 s10)
  case first =>
    go_wp2
    go_region_held3 (fun w' => w'.cell? ⟨w.heap.size, 0, none⟩ = some (.int .i64 1) ∧ w'.cell? ⟨w.heap.size, 1, none⟩ = some (.int .i64 2)) (simp [go_sem, World.cell?_alloc_past]) (fail)
    all_goals
      go_wp2_with fail
      go_meet
      refine ⟨_, _, _, _, rfl, rfl, rfl, rfl, ?_, ?_, ?_, ?_, ?_, ?_, ?_, ?_, ?_, ?_, ?_, ?_⟩
      · simp [go_sem, World.cell?_alloc_past]
      · simp [go_sem, World.cell?_alloc_past]
      · simp [go_sem, World.cell?_alloc_past]
      · simp [go_sem, World.cell?_alloc_past]
      · simp [go_sem, World.cell?_alloc_past]
      · simp [go_sem, World.cell?_alloc_past]
      · simp [go_sem, World.cell?_alloc_past]
      · simp [go_sem, World.cell?_alloc_past]
      · simp [go_sem, World.cell?_alloc_past]
      · simp [go_sem, World.cell?_alloc_past]
      · simp [go_sem, World.cell?_alloc_past]
      · have q0 := Nat.le_refl w.heap.size
        exact bl_drewN ((((((Below.refl _ _).alloc q0 _).alloc (le_alloc q0 _) _).alloc (le_alloc (le_alloc q0 _) _) _).alloc (le_alloc (le_alloc (le_alloc q0 _) _) _) _).alloc (le_alloc (le_alloc (le_alloc (le_alloc q0 _) _) _) _) _) 1
  case rest =>
    obtain ⟨g1, g2, h1, h2, rfl, rfl, rfl, rfl, k0, k1, a0, a1, a2, b0, b1, b2, c0, c1, d0, hB⟩ := hcut
    have hia : IntsAt wc (fun b => b < wc.heap.size) (some ⟨h1, 0, none⟩) 2 [0, 3] := ints_two (cell_lt c0) (by unfold I64; omega) (by unfold I64; omega) c0 c1
    have hLL : Lists wc g1 g2 := ⟨posts_one (p := pa) (cell_lt a0) a0 a1 a2 (by omega) hia,
      posts_one (p := pb) (cell_lt b0) b0 b1 b2 (by omega) (ints_one (cell_lt d0) (by unfold I64; omega) d0)⟩
    have hL := hid hLL; clear hLL
    have hput : ∀ w', Below wc.heap.size wc w' → Calls Try.prog 14 #[.slice none 0 0, .agg #[.int .i64 1, .int .i64 2, .slice (some ⟨h1, 0, none⟩) 2 2]] w' (RetLen 1 w') := fun w' hb =>
      putNil_any pa (some ⟨h1, 0, none⟩) 2 2 w' (fun b => b < wc.heap.size) (fun b h => Nat.lt_of_lt_of_le h hb.size) (ints_keep hia (Keep.of_below hb fun _ h => h)) (by omega) (by decide +kernel)
    have hPut := hid hput; clear hput hia
    have lk := cell_lt k0
    have lg := cell_lt a0
    have lk := cell_lt k0
    have lg := cell_lt a0
    clear b0 b1 b2 c0 c1 d0
    go_wp2
    refine wp_region_true (fun t => (kd w.heap.size g1 g2 h1 t).holds) (fun u v => Below u.heap.size u v) (fun τ => ⟨(τ 0 :: .pointer (some ⟨w.heap.size, 0, none⟩) :: SL g1 1 :: SL g2 1 :: u4 :: u5 :: SL h1 2 :: u7 :: u8 :: u9 :: SL h2 1 :: u11 :: u12 :: τ 13 :: τ 14 :: τ 15 :: τ 16 :: τ 17 :: τ 18 :: τ 19 :: τ 20 :: τ 21 :: τ 22 :: τ 23 :: τ 24 :: τ 25 :: τ 26 :: τ 27 :: τ 28 :: τ 29 :: τ 30 :: τ 31 :: τ 32 :: τ 33 :: τ 34 :: τ 35 :: τ 36 :: τ 37 :: τ 38 :: τ 39 :: τ 40 :: τ 41 :: τ 42 :: τ 43 :: τ 44 :: τ 45 :: τ 46 :: τ 47 :: τ 48 :: τ 49 :: τ 50 :: τ 51 :: τ 52 :: τ 53 :: τ 54 :: τ 55 :: τ 56 :: τ 57 :: τ 58 :: τ 59 :: τ 60 :: τ 61 :: τ 62 :: τ 63 :: τ 64 :: τ 65 :: τ 66 :: τ 67 :: τ 68 :: τ 69 :: τ 70 :: τ 71 :: τ 72 :: τ 73 :: []).toArray, []⟩)
      [[2], [3], [13, 14], [15], [1], [17], [16, 18], [19], [3, 20], [2, 20], [21, 22, 20], [23, 20], [24, 20], [25, 20], [20, 26], [27], [2, 28], [3, 28], [29, 30, 28], [31, 28], [1, 28], [33, 28], [32, 34, 28], [28, 35], [36], [2, 37], [3, 37], [38, 39, 37], [40, 37], [1, 37], [42, 37], [41, 43, 37], [37, 44], [45], [2, 46], [47, 46], [46, 48], [49], [1, 50], [51, 50], [1, 50], [53, 50], [52, 54, 50], [55, 50], [56, 50], [50, 57], [58], [2, 59], [60, 59], [61, 59], [62, 59], [63, 59], [64, 59], [59, 65], [66], [2, 67], [1, 67], [68, 69, 67], [70, 67], [71, 67], [67, 72], [73]]
      [1, 2, 3] [20, 28, 37, 46, 50, 59, 67]
      (by kernel_rfl) (fun τ => ?_) (by kernel_rfl) (by kernel_rfl) (by kernel_rfl) (by kernel_rfl) (by simp [kd, Kd.holds]) (fun w => Below.refl _ _) (fun _ _ _ h h2 => h.trans (h2.mono h.size)) (fun _ _ _ _ h h2 => Kd.keep h h2) (by simp [kd, Kd.holds]) ?_ ?_
    · rfl
    · refine ⟨?_, ?_, ?_, ?_, ?_, ?_, ?_, ?_, ?_, ?_, ?_, ?_, ?_, ?_, ?_, ?_, ?_, ?_, ?_, ?_, ?_, ?_, ?_, ?_, ?_, ?_, ?_, ?_, ?_, ?_, ?_, ?_, ?_, ?_, ?_, ?_, ?_, ?_, ?_, ?_, ?_, ?_, ?_, ?_, ?_, ?_, ?_, ?_, ?_, ?_, ?_, ?_, ?_, ?_, ?_, ?_, ?_, ?_, ?_, ?_, ?_, ?_, trivial⟩
      all_goals
        intro b w1 hR hd K hK
        have hB1 : Below wc.heap.size wc w1 := (Below.refl _ _).drew.trans hR
        have K0 : w1.cell? ⟨w.heap.size, 0, none⟩ = some (.int .i64 1) := by rw [hB1.cell (p := ⟨w.heap.size, 0, none⟩) lk]; exact k0
        have K1 : w1.cell? ⟨w.heap.size, 1, none⟩ = some (.int .i64 2) := by rw [hB1.cell (p := ⟨w.heap.size, 1, none⟩) lk]; exact k1
        have A0 : w1.cell? ⟨g1, 0, none⟩ = some (.int .i64 1) := by rw [hB1.cell (p := ⟨g1, 0, none⟩) lg]; exact a0
        have A1 : w1.cell? ⟨g1, 1, none⟩ = some (.int .i64 2) := by rw [hB1.cell (p := ⟨g1, 1, none⟩) lg]; exact a1
        have A2 : w1.cell? ⟨g1, 2, none⟩ = some (.slice (some ⟨h1, 0, none⟩) 2 2) := by rw [hB1.cell (p := ⟨g1, 2, none⟩) lg]; exact a2
        have hLw := lists_keep hL.out hB1
        clear hB hR k0 k1 a0 a1 a2 lk lg hL
        simp only [AllB, kd, Kd.holds, exists_eq_right] at hd
        dsimp only [kd, Kd.holds] at hK
      all_goals
        try (obtain ⟨hd, _hg⟩ := hd)
      all_goals first
        | (obtain ⟨_, ht, g, c, rfl, q0, q1⟩ := hd
           first
           | (go_simp; exact hK.out _ _ (Below.refl _ _) rfl)
           | (obtain ⟨⟨_, ht2, g', c', rfl, r0, r1⟩, _⟩ := _hg
              first
              | (go_simp; (go_at_call 13); refine (aw_same_any _ _ _ _ q0 q1 r0 r1).mono ?_; rintro e w2 ⟨rfl, hbb⟩; exact hK.out _ _ hbb rfl)
              | (go_simp; (go_at_call 10); refine (aw_less_any _ _ _ _ q0 q1 r0 r1).mono ?_; rintro e w2 ⟨A, c0, rfl, hbb⟩; exact hK.out _ _ hbb ⟨A, c0, rfl⟩))
           | (obtain ⟨_, ht2, g', c', rfl, r0, r1⟩ := _hg
              first
              | (go_simp; (go_at_call 13); refine (aw_same_any _ _ _ _ q0 q1 r0 r1).mono ?_; rintro e w2 ⟨rfl, hbb⟩; exact hK.out _ _ hbb rfl)))
        | (obtain ⟨_, ht, g, c, rfl, hc, q0, q1⟩ := hd
           first
           | (go_simp; (go_at_call 9); refine (aw_phrase_any _ _ hLw hc q0 q1).mono ?_; rintro e w2 ⟨g2, cap, rfl, _, r0, r1, hbb⟩; exact hK.out _ _ hbb ⟨g2, cap, rfl, r0, r1⟩)
           | (go_simp; (go_at_call 9); refine (aw_phrase2_any _ _ hLw hc q0 q1).mono ?_; rintro e w2 ⟨A, c0, rfl, hbb⟩; exact hK.out _ _ hbb ⟨A, c0, rfl⟩)
           | (go_simp; (go_at_call 7); refine (aw_and_any _ _ hLw hc q0 q1).mono ?_; rintro e w2 ⟨g2, cap, rfl, _, r0, r1, hbb⟩; exact hK.out _ _ hbb ⟨g2, cap, rfl, r0, r1⟩)
           | (go_simp; (go_at_call 8); refine (aw_or_any _ _ hLw q0 q1).mono ?_; rintro e w2 ⟨g2, cap, rfl, _, r0, r1, hbb⟩; exact hK.out _ _ hbb ⟨g2, cap, rfl, r0, r1⟩))
        | (obtain ⟨_, ht, A, c, rfl⟩ := hd
           go_simp; exact hK.out _ _ (Below.refl _ _) rfl)
        | (go_simp
           first
           | exact hK.out _ _ (Below.refl _ _) rfl
           | exact hK.out _ _ ((Below.refl _ _).alloc (Nat.le_refl _) _) ⟨w1.heap.size, 2, rfl, by omega, by simp [go_sem], by simp [go_sem]⟩
           | exact hK.out _ _ ((Below.refl _ _).alloc (Nat.le_refl _) _) ⟨w1.heap.size, 1, rfl, by simp [go_sem], by simp [go_sem]⟩
           | ((go_at_call 5); refine (aw_may_any hLw _).mono ?_; rintro e w2 ⟨rfl, hbb⟩; exact hK.out _ _ hbb rfl)
           | ((go_at_call 14); refine (hPut.out _ hB1).mono ?_; rintro e w2 ⟨A, c0, rfl, hbb⟩; exact hK.out _ _ hbb ⟨A, c0, rfl⟩)
           | ((go_at_call 15); refine (aw_drop_any hLw _).mono ?_; rintro e w2 ⟨A, c0, rfl, hbb⟩; exact hK.out _ _ hbb ⟨A, c0, rfl⟩))
    · intro τ w1 hR hv
      have h0 : τ 0 = .bool true := hv 0 (List.contains_iff_mem.1 (by kernel_rfl))
      simp only [h0]
      go_wp2
      go_ret
      exact ⟨rfl, (hB.drew.trans (hR.mono (by exact hB.size)))⟩
end Go.Proofs.Ytajggbekljohpaa
