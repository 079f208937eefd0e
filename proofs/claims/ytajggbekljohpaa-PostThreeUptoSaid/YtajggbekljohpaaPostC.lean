/- The place of a key in a list that may be: slices.BinarySearchFunc with post.order, post.find. -/
import Derived.Test.YtajggbekljohpaaPostA
namespace Go.Proofs.Ytajggbekljohpaa
open Go.RowKit

/-- keys rise -/
def Rising (l : List Post) : Prop := l.Pairwise fun a b => kLt a.k b.k = true
theorem kLt_trans {a b c : Key} (h : kLt a b = true) (h' : kLt b c = true) : kLt a c = true := by rw [kLt_iff] at *; omega
theorem kLt_irrefl (a : Key) : kLt a a = false := by rw [Bool.eq_false_iff, ne_eq, kLt_iff]; omega
theorem kLt_asymm {a b : Key} (h : kLt a b = true) : kLt b a = false := by rw [Bool.eq_false_iff, ne_eq, kLt_iff]; rw [kLt_iff] at h; omega
theorem kLt_total {a b : Key} (h : kLt a b = false) (h' : kLt b a = false) : a = b := by
  rw [Bool.eq_false_iff, ne_eq, kLt_iff] at h h'
  cases a; cases b; simp at *; omega
theorem mayFrom_rising : ∀ (l : List Post) (q : Option Key), mayFrom q l = true → Rising l ∧ (∀ x ∈ l, risesB x.at_ = true) ∧ (∀ y, q = some y → ∀ x ∈ l, kLt y x.k = true)
  | [], _, _ => ⟨.nil, by simp, by simp⟩
  | p :: r, q, h => by
    simp only [mayFrom, Bool.and_eq_true] at h
    obtain ⟨⟨h1, h2⟩, h3⟩ := h
    obtain ⟨i1, i2, i3⟩ := mayFrom_rising r (some p.k) h3
    refine ⟨.cons (fun x hx => i3 p.k rfl x hx) i1, fun x hx => ?_, fun y hy x hx => ?_⟩
    · rcases List.mem_cons.1 hx with rfl | hx
      · exact h1
      · exact i2 x hx
    · subst hy
      rcases List.mem_cons.1 hx with rfl | hx
      · exact h2
      · exact kLt_trans h2 (i3 p.k rfl x hx)
theorem mayB_rising {l : List Post} (h : mayB l = true) : Rising l := (mayFrom_rising l none h).1

/-- how many keys are ahead -/
def bsPos (ps : List Post) (k : Key) : Nat := (ps.takeWhile fun p => kLt p.k k).length
theorem bsPos_le (ps : List Post) (k : Key) : bsPos ps k ≤ ps.length := (List.takeWhile_sublist _).length_le
theorem lt_bsPos {k : Key} : ∀ {ps : List Post}, Rising ps → ∀ {j : Nat} {x : Post}, ps[j]? = some x → (kLt x.k k = true ↔ j < bsPos ps k)
  | [], _, j, x, h => by simp at h
  | p :: r, hs, 0, x, h => by
    simp at h; subst h
    unfold bsPos
    rw [List.takeWhile_cons]
    cases hp : kLt p.k k <;> simp
  | p :: r, hs, j + 1, x, h => by
    simp at h
    have hs' := List.pairwise_cons.1 hs
    unfold bsPos
    rw [List.takeWhile_cons]
    cases hp : kLt p.k k
    · have : kLt x.k k = false := by
        rw [Bool.eq_false_iff]; intro hx
        have := kLt_trans (hs'.1 x (List.mem_of_getElem? h)) hx
        rw [hp] at this; cases this
      simp [this]
    · have := lt_bsPos (k := k) hs'.2 h
      unfold bsPos at this
      simp [this]
theorem find_bsPos {k : Key} {ps : List Post} (hs : Rising ps) : ps.find? (fun p => p.k == k) = (ps[bsPos ps k]?).filter (fun p => p.k == k) := by
  induction ps with
  | nil => simp [bsPos]
  | cons p r ih =>
    have hs' := List.pairwise_cons.1 hs
    rw [List.find?_cons]
    by_cases hp : kLt p.k k = true
    · have hne : (p.k == k) = false := by rw [beq_eq_false_iff_ne]; intro e; rw [e, kLt_irrefl] at hp; cases hp
      rw [hne, ih hs'.2]
      have : bsPos (p :: r) k = bsPos r k + 1 := by simp [bsPos, hp]
      rw [this]; simp
    · have hp' : kLt p.k k = false := by simpa using hp
      have : bsPos (p :: r) k = 0 := by simp [bsPos, hp']
      rw [this]
      by_cases he : p.k = k
      · simp [he, Option.filter]
      · have hne : (p.k == k) = false := by rw [beq_eq_false_iff_ne]; exact he
        rw [hne]
        have hgt : kLt k p.k = true := by
          by_cases hg : kLt k p.k = true
          · exact hg
          · exact absurd (kLt_total hp' (by simpa using hg)) he
        have : r.find? (fun p => p.k == k) = none := by
          rw [List.find?_eq_none]
          intro x hx
          simp only [beq_iff_eq]
          intro e
          have := kLt_trans hgt (hs'.1 x hx)
          rw [e, kLt_irrefl] at this; cases this
        simp [this, Option.filter, hne]
theorem kCmp_neg {a b : Key} : decide (kCmp a b < 0) = kLt a b := by
  unfold kCmp
  cases h : kLt a b <;> simp
  split <;> decide
theorem kCmp_eq {a b : Key} : (kCmp a b == 0) = (a == b) := by
  unfold kCmp
  cases h : kLt a b
  · cases h' : kLt b a
    · have := kLt_total h h'; subst this; simp
    · have : (a == b) = false := by rw [beq_eq_false_iff_ne]; rintro rfl; rw [kLt_irrefl] at h'; cases h'
      rw [this]; rfl
  · have : (a == b) = false := by rw [beq_eq_false_iff_ne]; rintro rfl; rw [kLt_irrefl] at h; cases h
    rw [this]; rfl

theorem found_no {ps : List Post} {k : Key} (hs : Rising ps) (h : ps.length ≤ bsPos ps k) : (ps.find? (fun p => p.k == k)).isSome = false := by
  rw [find_bsPos hs, List.getElem?_eq_none h]; rfl
theorem found_at {ps : List Post} {k : Key} {x : Post} (hs : Rising ps) (h : ps[bsPos ps k]? = some x) : (ps.find? (fun p => p.k == k)).isSome = (x.k == k) := by
  rw [find_bsPos hs, h]; simp [Option.filter]; split <;> simp_all
theorem Below.tail1 {W w' : World} {o : Obj} (h : Below (W.heap.size + 1) (W.alloc o) w') : Below W.heap.size W w' := ((Below.refl _ _).alloc (Nat.le_refl _) _).trans (h.mono (by omega))

set_option maxHeartbeats 800000 in
theorem bsf_any (A : Option Addr) (n c : Nat) (ps : List Post) (k : Key) (w : World) (S : Nat → Prop) (hS : ∀ b, S b → b < w.heap.size) (hn : n ≤ 1048576) (hp : PostsAt w S A n ps) (hs : Rising ps) :
    Calls Try.prog 27 #[.slice A n c, .agg #[.int .i64 k.o, .int .i64 k.s], .func (.func 21) #[] #[]] w fun e w' =>
      e = .returned (.tuple #[.int .i64 (bsPos ps k), .bool ((ps.find? (fun p => p.k == k)).isSome)]) ∧ Below w.heap.size w w' := by
  have hl := hid hp.len
  have hbs := bsPos_le ps k
  rw [hl.out] at hbs
  generalize hbe : bsPos ps k = B at *
  have HBE := hid hbe; clear hbe
  have HS := hid hs; clear hs
  go_enter Try.func27, Try.ntmps27
  go_wp2
  go_loopw [9, 10] (fun i j wr => ∃ lo hi : Nat, lo ≤ B ∧ B ≤ hi ∧ hi ≤ n ∧ i = .int .i64 lo ∧ j = .int .i64 hi ∧ Below (w.heap.size + 1) (w.alloc (.cells #[.int .i64 k.o, .int .i64 k.s] 32)) wr) (fun i j _ => ((intOf j).toNat - (intOf i).toNat))
  case atStart => exact ⟨0, n, by omega, by omega, by omega, rfl, rfl, Below.refl _ _⟩
  case round =>
    obtain ⟨lo, hi, hlo, hhi, hhn, rfl, rfl, hB⟩ := hrel
    have hsz := hB.size
    have hz1 : w.heap.size < wr.heap.size := by simp at hsz; omega
    have hBw : Below w.heap.size w wr := ((Below.refl _ _).alloc (Nat.le_refl _) _).trans (hB.mono (by omega))
    have hpk := posts_keep hp (Keep.of_below hBw hS)
    have e0 : wr.cell? ⟨w.heap.size, 0, none⟩ = some (.int .i64 k.o) := by rw [hB.cell (p := ⟨w.heap.size, 0, none⟩) (by simp)]; simp [go_sem]
    have e1 : wr.cell? ⟨w.heap.size, 1, none⟩ = some (.int .i64 k.s) := by rw [hB.cell (p := ⟨w.heap.size, 1, none⟩) (by simp)]; simp [go_sem]
    by_cases hlt : lo < hi
    · obtain ⟨b, f, x, A', m, c', rfl, hb, c0, c1, c2, hmc, hx, hxk, hd⟩ := posts_get hpk (show (lo + hi) / 2 < n by omega)
      have HX := hid hxk; clear hxk
      clear hd
      have hbl := cell_lt c0
      have i1 : (0 : Int) ≤ ((lo : Int) + hi) / 2 := by omega
      have i2 : ((lo : Int) + hi) / 2 < (n : Int) := by omega
      have i3 : (((lo : Int) + hi) / 2).toNat = (lo + hi) / 2 := by omega
      go_wp2
      go_region_held3 (fun w' => w'.cell? ⟨b, f + (lo + hi) / 2 * 3, none⟩ = some (.int .i64 x.k.o) ∧ w'.cell? ⟨b, f + (lo + hi) / 2 * 3 + 1, none⟩ = some (.int .i64 x.k.s) ∧ w'.cell? ⟨b, f + (lo + hi) / 2 * 3 + 2, none⟩ = some (.slice A' m c') ∧
          w'.cell? ⟨w.heap.size, 0, none⟩ = some (.int .i64 k.o) ∧ w'.cell? ⟨w.heap.size, 1, none⟩ = some (.int .i64 k.s)) (first | exact ⟨q0, q1, q2, q3, q4⟩ | go_keep)
        (first
          | (go_at_call 21; refine (order_any x k _ _).mono ?_; rintro e w1 ⟨rfl, hbb⟩; obtain ⟨hc, hf⟩ := bcell hbb
             have q0 := (hc _ _ hbl).trans c0; have q1 := (hc _ _ hbl).trans c1; have q2 := (hc _ _ hbl).trans c2; have q3 := (hc _ _ hz1).trans e0; have q4 := (hc _ _ hz1).trans e1))
      rename_i hHeld
      clear hHeld
      have hfin : Below (w.heap.size + 1) (w.alloc (.cells #[.int .i64 k.o, .int .i64 k.s] 32)) w1 := (bl_drewN hB 1).trans (hbb.mono (by simp at hsz ⊢; omega))
      have hiff := lt_bsPos HS.out (k := k) HX.out
      rw [HBE.out] at hiff
      cases g : kLt x.k k
      · have g' : 0 ≤ kCmp x.k k := by have := kCmp_neg (a := x.k) (b := k); rw [g] at this; simpa using this
        have hge : ¬ (lo + hi) / 2 < B := by rw [← hiff, g]; simp
        clear hiff
        go_wp2
        exact ⟨⟨lo, (lo + hi) / 2, by omega, by omega, by omega, rfl, by go_num, hfin⟩, by simp [intOf]; omega⟩
      · have g' : kCmp x.k k < 0 := by have := kCmp_neg (a := x.k) (b := k); rw [g] at this; simpa using this
        have hge : (lo + hi) / 2 < B := hiff.1 g
        clear hiff
        go_wp2
        exact ⟨⟨(lo + hi) / 2 + 1, hi, by omega, by omega, by omega, by go_num, rfl, hfin⟩, by simp [intOf]; omega⟩
    · obtain rfl : lo = B := by omega
      obtain rfl : hi = lo := by omega
      by_cases hend : hi < n
      · obtain ⟨b, f, x, A', m, c', rfl, hb, c0, c1, c2, hmc, hx, hxk, hd⟩ := posts_get hpk hend
        have hfa := found_at HS.out (k := k) (x := x) (by rw [HBE.out]; exact hxk)
        have HFA := hid hfa; clear hfa
        clear hd hxk
        have hbl := cell_lt c0
        have i1 : (0 : Int) ≤ hi := by omega
        have i2 : (hi : Int) < (n : Int) := by omega
        go_wp2
        go_region_held3 (fun w' => w'.cell? ⟨b, f + hi * 3, none⟩ = some (.int .i64 x.k.o) ∧ w'.cell? ⟨b, f + hi * 3 + 1, none⟩ = some (.int .i64 x.k.s) ∧ w'.cell? ⟨b, f + hi * 3 + 2, none⟩ = some (.slice A' m c') ∧
            w'.cell? ⟨w.heap.size, 0, none⟩ = some (.int .i64 k.o) ∧ w'.cell? ⟨w.heap.size, 1, none⟩ = some (.int .i64 k.s)) (first | exact ⟨q0, q1, q2, q3, q4⟩ | go_keep)
          (first
            | (go_at_call 21; refine (order_any x k _ _).mono ?_; rintro e w1 ⟨rfl, hbb⟩; obtain ⟨hc, hf⟩ := bcell hbb
               have q0 := (hc _ _ hbl).trans c0; have q1 := (hc _ _ hbl).trans c1; have q2 := (hc _ _ hbl).trans c2; have q3 := (hc _ _ hz1).trans e0; have q4 := (hc _ _ hz1).trans e1))
        rename_i hHeld
        clear hHeld
        have hfin : Below (w.heap.size + 1) (w.alloc (.cells #[.int .i64 k.o, .int .i64 k.s] 32)) w1 := (bl_drewN hB 1).trans (hbb.mono (by simp at hsz ⊢; omega))
        go_wp2
        go_ret2
        exact ⟨by rw [HFA.out, ← kCmp_eq]; rfl, Below.tail1 hfin⟩
      · obtain rfl : hi = n := by omega
        have hno := found_no HS.out (k := k) (by rw [HBE.out, hl.out]; omega)
        have HNO := hid hno; clear hno
        have hd : decide ((hi : Int) < (hi : Int)) = false := by simp
        go_wp2
        go_quiet (fail)
        go_wp2
        go_ret2
        exact ⟨by rw [HNO.out]; rfl, Below.tail1 (bl_drewN hB _)⟩
/-- what post.find answers -/
def FindPost (w : World) (S : Nat → Prop) (o : Option Post) (e : Ending) : Prop :=
  match o with
  | none => e = .returned (.tuple #[.agg #[.int .i64 0, .int .i64 0, .slice none 0 0], .bool false])
  | some x => ∃ A m c, m ≤ c ∧ IntsAt w S A m x.at_ ∧ e = .returned (.tuple #[.agg #[.int .i64 x.k.o, .int .i64 x.k.s, .slice A m c], .bool true])
theorem find_mem {ps : List Post} {k : Key} {x : Post} (hs : Rising ps) (h : ps.find? (fun p => p.k == k) = some x) : ps[bsPos ps k]? = some x ∧ x.k = k := by
  rw [find_bsPos hs] at h
  cases h' : ps[bsPos ps k]? with
  | none => rw [h'] at h; simp at h
  | some y => rw [h'] at h; simp [Option.filter] at h; obtain ⟨h1, h2⟩ := h; subst h2; exact ⟨rfl, h1⟩

set_option maxHeartbeats 800000 in
theorem find_any (A : Option Addr) (n c : Nat) (ps : List Post) (k : Key) (w : World) (S : Nat → Prop) (hS : ∀ b, S b → b < w.heap.size) (hn : n ≤ 1048576) (hp : PostsAt w S A n ps) (hs : Rising ps) :
    Calls Try.prog 32 #[.slice A n c, .agg #[.int .i64 k.o, .int .i64 k.s]] w fun e w' => FindPost w S (ps.find? (fun p => p.k == k)) e ∧ Below w.heap.size w w' := by
  have hl := hid hp.len
  have hbs := bsPos_le ps k
  rw [hl.out] at hbs
  have hS2 : ∀ b, S b → b < ((w.alloc (.cells #[.int .i64 k.o, .int .i64 k.s] 32)).alloc (.cells #[.int .i64 0, .int .i64 0, .slice none 0 0] 35)).heap.size := fun b hb => by have := hS b hb; simp; omega
  have hp2 := posts_keep hp ((((Keep.refl S w).alloc hS (.cells #[.int .i64 k.o, .int .i64 k.s] 32)).alloc (fun b hb => by have := hS b hb; simp; omega) (.cells #[.int .i64 0, .int .i64 0, .slice none 0 0] 35)))
  cases hf : ps.find? (fun p => p.k == k) with
  | none =>
    have hfs : (ps.find? (fun p => p.k == k)).isSome = false := by rw [hf]; rfl
    have HFS := hid hfs; clear hfs hf
    go_enter Try.func32, Try.ntmps32
    go_wp2_with fail
    refine (bsf_any A n c ps k _ S hS2 hn hp2 hs).mono ?_
    rw [HFS.out]
    rintro e w1 ⟨rfl, hb⟩
    obtain ⟨hc, hfz⟩ := bcell hb
    have hz : w.heap.size + 1 < w1.heap.size := by have := hb.size; simp at this; omega
    go_wp2
    refine bodyPost_ret (v := .tuple #[.agg #[.int .i64 0, .int .i64 0, .slice none 0 0], .bool false]) ?_ rfl ⟨rfl, ?_⟩
    · simp [results, Try.results32, go_sem, hc]
    · have h1 : Below w.heap.size w w1 := (((Below.refl _ _).alloc (Nat.le_refl _) _).alloc (by simp) _).trans (hb.mono (by simp; omega))
      exact ((h1.setCell (by simp) _).setCell (by simp) _).setCell (by simp) _
  | some x =>
    obtain ⟨hxk, hxe⟩ := find_mem hs hf
    have hfs : (ps.find? (fun p => p.k == k)).isSome = true := by rw [hf]; rfl
    have HFS := hid hfs; clear hfs hf
    have hlt : bsPos ps k < n := by have := (List.getElem?_eq_some_iff.1 hxk).1; rw [hl.out] at this; exact this
    obtain ⟨b, f, y, A', m, c', rfl, hb0, c0, c1, c2, hmc, hy, hyk, hd⟩ := posts_get hp hlt
    obtain rfl : y = x := by rw [hxk] at hyk; cases hyk; rfl
    clear hd hyk hxk hxe
    have hbl := cell_lt c0
    have i1 : b < w.heap.size + 1 + 1 := by omega
    go_enter Try.func32, Try.ntmps32
    go_wp2_with fail
    refine (bsf_any _ n c ps k _ S hS2 hn hp2 hs).mono ?_
    rw [HFS.out]
    rintro e w1 ⟨rfl, hb⟩
    obtain ⟨hc, hfz⟩ := bcell hb
    have hz : w.heap.size + 1 < w1.heap.size := by have := hb.size; simp at this; omega
    go_wp2
    refine bodyPost_ret (v := .tuple #[.agg #[.int .i64 y.k.o, .int .i64 y.k.s, .slice A' m c'], .bool true]) ?_ rfl ⟨⟨A', m, c', hmc, hy, rfl⟩, ?_⟩
    · simp [results, Try.results32, go_sem, hc]
    · have h1 : Below w.heap.size w w1 := (((Below.refl _ _).alloc (Nat.le_refl _) _).alloc (by simp) _).trans (hb.mono (by simp; omega))
      exact ((h1.setCell (by simp) _).setCell (by simp) _).setCell (by simp) _
end Go.Proofs.Ytajggbekljohpaa
