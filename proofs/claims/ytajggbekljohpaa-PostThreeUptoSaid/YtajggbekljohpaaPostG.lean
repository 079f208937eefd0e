/- Do places follow one another: slices.BinarySearch at int, post.follow; post.And, post.Phrase. -/
import Derived.Test.YtajggbekljohpaaPostF
import Derived.Shelf.Abstract
namespace Go.Proofs.Ytajggbekljohpaa
open Go.RowKit

/-- numbers rise -/
def RisingI (l : List Int) : Prop := l.Pairwise (· < ·)
theorem risesFrom_rising : ∀ (l : List Int) (q : Int), risesFrom q l = true → RisingI l ∧ ∀ x ∈ l, q < x
  | [], _, _ => ⟨.nil, by simp⟩
  | n :: r, q, h => by
    simp only [risesFrom, Bool.and_eq_true, decide_eq_true_eq] at h
    obtain ⟨i1, i2⟩ := risesFrom_rising r n h.2
    refine ⟨.cons (fun x hx => i2 x hx) i1, fun x hx => ?_⟩
    rcases List.mem_cons.1 hx with rfl | hx
    · exact h.1
    · have := i2 x hx; omega
theorem risesB_rising {l : List Int} (h : risesB l = true) : RisingI l ∧ (∀ x ∈ l, 0 ≤ x) ∧ l ≠ [] := by
  unfold risesB at h
  simp only [Bool.and_eq_true, Bool.not_eq_true', List.isEmpty_eq_false_iff] at h
  obtain ⟨h1, h2⟩ := h
  obtain ⟨i1, i2⟩ := risesFrom_rising l (-1) h1
  exact ⟨i1, fun x hx => by have := i2 x hx; omega, h2⟩
/-- is a number there -/
def hasI (l : List Int) (t : Int) : Bool := l.contains t
def biPos (l : List Int) (t : Int) : Nat := (l.takeWhile fun x => decide (x < t)).length
theorem biPos_le (l : List Int) (t : Int) : biPos l t ≤ l.length := (List.takeWhile_sublist _).length_le
theorem lt_biPos {t : Int} : ∀ {l : List Int}, RisingI l → ∀ {j : Nat} {x : Int}, l[j]? = some x → (x < t ↔ j < biPos l t)
  | [], _, j, x, h => by simp at h
  | p :: r, hs, 0, x, h => by
    simp at h; subst h
    unfold biPos
    rw [List.takeWhile_cons]
    by_cases hp : p < t <;> simp [hp]
  | p :: r, hs, j + 1, x, h => by
    simp at h
    have hs' := List.pairwise_cons.1 hs
    unfold biPos
    rw [List.takeWhile_cons]
    by_cases hp : p < t
    · have := lt_biPos (t := t) hs'.2 h
      unfold biPos at this
      simp [hp, this]
    · have : ¬ x < t := by have := hs'.1 x (List.mem_of_getElem? h); omega
      simp [hp, this]
theorem foundI_no {l : List Int} {t : Int} (hs : RisingI l) (h : l.length ≤ biPos l t) : hasI l t = false := by
  unfold hasI
  rw [Bool.eq_false_iff]; intro hc
  obtain ⟨j, hj⟩ := List.getElem?_of_mem (List.contains_iff_mem.1 hc)
  have hl := (List.getElem?_eq_some_iff.1 hj).1
  have := (lt_biPos (t := t) hs hj).2 (by omega)
  omega
theorem foundI_at {l : List Int} {t x : Int} (hs : RisingI l) (h : l[biPos l t]? = some x) : hasI l t = (x == t) := by
  unfold hasI
  by_cases e : x = t
  · subst e
    rw [beq_self_eq_true, List.contains_iff_mem]
    exact List.mem_of_getElem? h
  · rw [beq_eq_false_iff_ne.2 e, Bool.eq_false_iff]
    intro hc
    obtain ⟨j, hj⟩ := List.getElem?_of_mem (List.contains_iff_mem.1 hc)
    have h1 := lt_biPos (t := t) hs h
    have h2 := lt_biPos (t := t) hs hj
    have h3 : ¬ j < biPos l t := fun h => by have := h2.2 h; omega
    have h4 : j ≠ biPos l t := by rintro rfl; rw [h] at hj; cases hj; exact e rfl
    have h5 : ¬ x < t := fun h => by have := h1.1 h; omega
    obtain ⟨hl1, he1⟩ := List.getElem?_eq_some_iff.1 h
    obtain ⟨hl2, he2⟩ := List.getElem?_eq_some_iff.1 hj
    have := List.pairwise_iff_getElem.1 hs _ _ hl1 hl2 (by omega)
    rw [he1, he2] at this
    omega

set_option maxHeartbeats 800000 in
theorem bsi_any (A : Option Addr) (n c : Nat) (zs : List Int) (t : Int) (w : World) (S : Nat → Prop) (hn : n ≤ 1048576) (hp : IntsAt w S A n zs) (hs : RisingI zs) :
    Calls Try.prog 39 #[.slice A n c, .int .i64 t] w fun e w' => e = .returned (.tuple #[.int .i64 (biPos zs t), .bool (hasI zs t)]) ∧ w = w' := by
  have hl := hid hp.len
  have hbs := biPos_le zs t
  rw [hl.out] at hbs
  generalize hbe : biPos zs t = B at *
  have HBE := hid hbe; clear hbe
  have HS := hid hs; clear hs
  go_enter Try.func39, Try.ntmps39
  go_wp2
  go_loop [7, 8] (fun i j => ∃ lo hi : Nat, lo ≤ B ∧ B ≤ hi ∧ hi ≤ n ∧ i = .int .i64 lo ∧ j = .int .i64 hi) (fun i j => ((intOf j).toNat - (intOf i).toNat))
  case atStart => exact ⟨0, n, by omega, by omega, by omega, rfl, rfl⟩
  case round =>
    obtain ⟨lo, hi, hlo, hhi, hhn, rfl, rfl⟩ := hrel
    by_cases hlt : lo < hi
    · obtain ⟨b, f, x, rfl, hb, c0, hx, hxk, hd⟩ := ints_get hp (show (lo + hi) / 2 < n by omega)
      have hiff := lt_biPos HS.out (t := t) hxk
      rw [HBE.out] at hiff
      clear hd hxk
      by_cases hxt : x < t
      · have hge : (lo + hi) / 2 < B := hiff.1 hxt
        clear hiff
        go_wp2
        exact ⟨⟨(lo + hi) / 2 + 1, hi, by omega, by omega, by omega, by go_num, rfl⟩, by simp [intOf]; omega⟩
      · have hge : ¬ (lo + hi) / 2 < B := fun h => hxt (hiff.2 h)
        clear hiff
        go_wp2
        exact ⟨⟨lo, (lo + hi) / 2, by omega, by omega, by omega, rfl, by go_num⟩, by simp [intOf]; omega⟩
    · obtain rfl : lo = B := by omega
      obtain rfl : hi = lo := by omega
      by_cases hend : hi < n
      · obtain ⟨b, f, x, rfl, hb, c0, hx, hxk, hd⟩ := ints_get hp hend
        have hfa := foundI_at HS.out (t := t) (x := x) (by rw [HBE.out]; exact hxk)
        have HFA := hid hfa; clear hfa
        clear hd hxk
        cases g : x == t
        · rw [g] at HFA
          go_wp2
          go_ret2
          exact ⟨by rw [HFA.out]; rfl, rfl⟩
        · rw [g] at HFA
          go_wp2
          go_ret2
          exact ⟨by rw [HFA.out]; rfl, rfl⟩
      · obtain rfl : hi = n := by omega
        have hno := foundI_no HS.out (t := t) (by rw [HBE.out, hl.out]; omega)
        have HNO := hid hno; clear hno
        go_wp2
        go_ret2
        exact ⟨by rw [HNO.out]; rfl, rfl⟩

theorem and1_con : IsCon 17 (fun _ => true) := by
  intro w A n c ps S hS h0 hn hc hp hm
  go_enter Try.func17, Try.ntmps17
  go_wp2
  go_ret
  exact ⟨rfl, Below.refl _ _⟩

theorem and_any (A : Option Addr) (n c : Nat) (ls : List (List Post)) (w : World) (S : Nat → Prop) (hS : ∀ b, S b → b < w.heap.size) (hn : n ≤ 1048576) (hc : n ≤ c) (hp : RowsAt w S A n ls)
    (hm : ∀ l ∈ ls, l.length ≤ 1048576 ∧ ∀ p ∈ l, p.at_.length ≤ 1048576) :
    Calls Try.prog 7 #[.slice A n c] w (RetKeys (eachD (fun _ => true) ls) w) := by
  have eg : ∀ (args : Array Value) (w : World), (callFunc 17 args).run Try.prog w = .ok (.enter 17 args) w := enters_of Try.func17 (by kernel_rfl) rfl
  have h := each_any 17 (fun _ => true) eg and1_con A n c ls w S hS hn hc hp hm
  clear eg
  go_enter Try.func7, Try.ntmps7
  go_wp2_with (go_at_call 16; refine h.mono ?_; rintro e w1 ⟨v, rfl, ho, hb⟩)
  go_ret
  exact ⟨v, rfl, ho, hb⟩

/-- do places follow one another from a on, the first of these posts being number i -/
def followsAt (a : Int) (i : Nat) : List Post → Bool
  | [] => true
  | p :: r => hasI p.at_ (RowKit.wrap64 (a + i)) && followsAt a (i + 1) r
def followB (ps : List Post) : Bool :=
  match ps with
  | [] => false
  | p :: _ => p.at_.any fun a => followsAt a 0 ps

set_option maxHeartbeats 400000 in
theorem follow1_any (a : Int) (bx : Nat) (A : Option Addr) (n c : Nat) (ps : List Post) (w : World) (S : Nat → Prop) (hS : ∀ b, S b → b < w.heap.size) (hn : n ≤ 1048576) (hbx : w.cell? ⟨bx, 0, none⟩ = some (.slice A n c)) (hp : PostsAt w S A n ps)
    (hm : ∀ p ∈ ps, p.at_.length ≤ 1048576 ∧ risesB p.at_ = true) :
    Calls Try.prog 38 #[.int .i64 a, .pointer (some ⟨bx, 0, none⟩)] w fun e w' => e = .returned (.bool (followsAt a 0 ps)) ∧ Below w.heap.size w w' := by
  have hl := hid hp.len
  go_enter Try.func38, Try.ntmps38
  go_wp2
  go_loopw [10] (fun i wr => ∃ k : Nat, k ≤ n ∧ i = .int .i64 k ∧ Below w.heap.size w wr ∧ Hid (followsAt a 0 ps = followsAt a k (ps.drop k))) (fun i _ => n - (intOf i).toNat)
  case atStart => exact ⟨0, by omega, rfl, Below.refl _ _, hid rfl⟩
  case round =>
    obtain ⟨k, hk, rfl, hB, hh⟩ := hrel
    by_cases hlt : k < n
    · obtain ⟨b, f, x, A', m, c', rfl, hb, c0, c1, c2, hmc, hx, hxk, hd⟩ := posts_get (posts_keep hp (Keep.of_below hB hS)) hlt
      have HX := hid hxk; clear hxk
      have HD := hid hd; clear hd
      obtain ⟨hmx, hrx⟩ := hm x (List.mem_of_getElem? HX.out)
      rw [hx.len] at hmx
      have hri := hid (risesB_rising hrx).1
      have hS' : ∀ b, S b → b < wr.heap.size := fun b hb => Nat.lt_of_lt_of_le (hS b hb) hB.size
      have hx' := ints_keep hx ((Keep.refl S wr).alloc hS' (.cells #[.int .i64 x.k.o, .int .i64 x.k.s, .slice A' m c'] 35))
      have hst : Hid (followsAt a 0 ps = (hasI x.at_ (wrap64 (a + k)) && followsAt a (k + 1) (ps.drop (k + 1)))) := hid (by rw [hh.out, HD.out]; rfl)
      cases g : hasI x.at_ (wrap64 (a + k))
      · have hr : Hid (followsAt a 0 ps = false) := hid (by rw [hst.out, g]; rfl)
        go_wp2_with (go_at_call 39; refine (bsi_any A' m c' x.at_ _ _ S hmx hx' hri.out).mono ?_; rw [g]; rintro e w1 ⟨rfl, rfl⟩)
        go_ret
        exact ⟨by rw [hr.out]; rfl, hB.alloc hB.size _⟩
      · rw [g] at hst
        go_wp2_with (go_at_call 39; refine (bsi_any A' m c' x.at_ _ _ S hmx hx' hri.out).mono ?_; rw [g]; rintro e w1 ⟨rfl, rfl⟩)
        exact ⟨⟨k + 1, by omega, by go_num, hB.alloc hB.size _, hst⟩, by simp [intOf]; omega⟩
    · obtain rfl : k = n := by omega
      have hr : Hid (followsAt a 0 ps = true) := hid (by rw [hh.out, List.drop_eq_nil_of_le (by rw [hl.out]; omega)]; rfl)
      go_wp2
      go_ret
      exact ⟨by rw [hr.out]; rfl, hB⟩

set_option maxHeartbeats 400000 in
theorem followIdx_any (bx : Nat) (A D : Option Addr) (n c m d : Nat) (ps : List Post) (zs : List Int) (w : World) (S : Nat → Prop) (hS : ∀ b, S b → b < w.heap.size) (hn : n ≤ 1048576) (hm0 : m ≤ 1048576) (hbx : w.cell? ⟨bx, 0, none⟩ = some (.slice A n c)) (hp : PostsAt w S A n ps)
    (hm : ∀ p ∈ ps, p.at_.length ≤ 1048576 ∧ risesB p.at_ = true) (hz : IntsAt w S D m zs) :
    Calls Try.prog 55 #[.slice D m d, .func (.func 38) #[] #[.pointer (some ⟨bx, 0, none⟩)]] w (IdxOf (zs.any fun a => followsAt a 0 ps) w) := by
  have hl := hid hz.len
  have hbl := cell_lt hbx
  go_enter Try.func55, Try.ntmps55
  go_wp2
  go_loopw [8] (fun i wr => ∃ k : Nat, k ≤ m ∧ i = .int .i64 k ∧ Below w.heap.size w wr ∧ Hid ((zs.any fun a => followsAt a 0 ps) = ((zs.drop k).any fun a => followsAt a 0 ps))) (fun i _ => m - (intOf i).toNat)
  case atStart => exact ⟨0, by omega, rfl, Below.refl _ _, hid rfl⟩
  case round =>
    obtain ⟨k, hk, rfl, hB, hh⟩ := hrel
    by_cases hlt : k < m
    · obtain ⟨b, f, x, rfl, hb, c0, hx, hxk, hd⟩ := ints_get (ints_keep hz (Keep.of_below hB hS)) hlt
      have HD := hid hd; clear hd hxk
      have hS' : ∀ b, S b → b < wr.heap.size := fun b hb => Nat.lt_of_lt_of_le (hS b hb) hB.size
      have hbx' : wr.cell? ⟨bx, 0, none⟩ = some (.slice A n c) := by rw [hB.cell (p := ⟨bx, 0, none⟩) hbl]; exact hbx
      have hcon := hid (follow1_any x bx A n c ps wr S hS' hn hbx' (posts_keep hp (Keep.of_below hB hS)) hm)
      cases g : followsAt x 0 ps
      · have hr := hid (any_on' hh.out HD.out g)
        go_wp2_with (go_at_call 38; refine hcon.out.mono ?_; rw [g]; rintro e w1 ⟨rfl, hb1⟩)
        exact ⟨⟨k + 1, by omega, by go_num, hB.trans (hb1.mono hB.size), hr⟩, by simp [intOf]; omega⟩
      · have hr := hid (any_hit' hh.out HD.out g)
        go_wp2_with (go_at_call 38; refine hcon.out.mono ?_; rw [g]; rintro e w1 ⟨rfl, hb1⟩)
        go_ret
        exact ⟨k, rfl, by rw [hr.out]; simp, hB.trans (hb1.mono hB.size)⟩
    · obtain rfl : k = m := by omega
      have hr : Hid ((zs.any fun a => followsAt a 0 ps) = false) := hid (by rw [hh.out, List.drop_eq_nil_of_le (by rw [hl.out]; omega)]; rfl)
      go_wp2
      go_ret
      exact ⟨-1, rfl, by rw [hr.out]; simp, hB⟩

theorem follow_con : IsCon 23 followB := by
  intro w A n c ps S hS h0 hn hc hp hm
  obtain ⟨b, f, x, A', m, c', rfl, hb, c0, c1, c2, hmc, hx, hxk, hd⟩ := posts_get hp h0
  simp only [Nat.zero_mul, Nat.add_zero] at c0 c1 c2
  have HX := hid hxk; clear hxk
  obtain ⟨hmx, hrx⟩ := hm x (List.mem_of_getElem? HX.out)
  rw [hx.len] at hmx
  have hfb : Hid (followB ps = x.at_.any fun a => followsAt a 0 ps) := hid (by
    have : ps = x :: ps.drop 1 := hd
    rw [this]; rfl)
  clear hd
  have hk := (Keep.refl S w).alloc hS (.cells #[.slice (some ⟨b, f, none⟩) n c] 22)
  have hcf : Calls Try.prog 37 #[.slice A' m c', .func (.func 38) #[] #[.pointer (some ⟨w.heap.size, 0, none⟩)]] (w.alloc (.cells #[.slice (some ⟨b, f, none⟩) n c] 22)) fun e w' => e = .returned (.bool (followB ps)) ∧ Below w.heap.size w w' := by
    have hidx := hid (followIdx_any w.heap.size (some ⟨b, f, none⟩) A' n c m c' ps x.at_ (w.alloc (.cells #[.slice (some ⟨b, f, none⟩) n c] 22)) S (fun b hb => lt_alloc (hS b hb) _) hn hmx (by simp [go_sem]) (posts_keep hp hk) hm (ints_keep hx hk))
    rw [← hfb.out] at hidx
    go_enter Try.func37, Try.ntmps37
    go_wp2_with (go_at_call 55; refine hidx.out.mono ?_; rintro e w1 ⟨i, rfl, hi, hb1⟩; have HI := hid hi; clear hi)
    go_ret
    exact ⟨by rw [← HI.out]; rfl, ((Below.refl _ _).alloc (Nat.le_refl _) _).trans (hb1.mono (le_alloc (Nat.le_refl _) _))⟩
  have HCF := hid hcf; clear hcf
  have hbl := cell_lt c0
  go_enter Try.func23, Try.ntmps23
  go_wp2_with (go_at_call 37; refine HCF.out.mono ?_; rintro e w1 ⟨rfl, hb1⟩)
  go_ret
  exact ⟨rfl, hb1⟩

theorem phrase_any (A : Option Addr) (n c : Nat) (ls : List (List Post)) (w : World) (S : Nat → Prop) (hS : ∀ b, S b → b < w.heap.size) (hn : n ≤ 1048576) (hc : n ≤ c) (hp : RowsAt w S A n ls)
    (hm : ∀ l ∈ ls, l.length ≤ 1048576 ∧ ∀ p ∈ l, p.at_.length ≤ 1048576) :
    Calls Try.prog 9 #[.slice A n c] w (RetKeys (eachD followB ls) w) := by
  have eg : ∀ (args : Array Value) (w : World), (callFunc 23 args).run Try.prog w = .ok (.enter 23 args) w := enters_of Try.func23 (by kernel_rfl) rfl
  have h := each_any 23 followB eg follow_con A n c ls w S hS hn hc hp hm
  clear eg
  go_enter Try.func9, Try.ntmps9
  go_wp2_with (go_at_call 16; refine h.mono ?_; rintro e w1 ⟨v, rfl, ho, hb⟩)
  go_ret
  exact ⟨v, rfl, ho, hb⟩
end Go.Proofs.Ytajggbekljohpaa
