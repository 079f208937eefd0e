/- A post put into nothing, the only post dropped: what grapevinelaw10.awake asks of post.Put and post.Drop. -/
import Derived.Test.YtajggbekljohpaaPostJ
namespace Go.Proofs.Ytajggbekljohpaa
open Go.RowKit

/-- a slice of so many elements -/
def RetLen (n : Nat) (w : World) (e : Ending) (w' : World) : Prop := ∃ A c, e = .returned (.slice A n c) ∧ Below w.heap.size w w'

theorem own0_any (ad : Addr) (c : Nat) (w : World) : Calls Try.prog 25 #[.slice (some ad) 0 c] w (RetLen 0 w) := by
  have hcl := hid (clonePosts_any ad 0 c [] w (fun _ => False) (fun _ h => h.elim) (by omega) SliceAt.nil_)
  go_enter Try.func25, Try.ntmps25
  go_wp2_with (go_at_call 30; refine hcl.out.mono ?_; rintro e w1 ⟨v, rfl, hvn, ⟨qs, _, ⟨_, hrow⟩, _⟩, hb⟩
               obtain ⟨g, cap, rfl⟩ : ∃ g cap, v = .slice (some ⟨g, 0, none⟩) 0 cap := by
                 rcases hrow with ⟨rfl, _⟩ | ⟨g, cap, cur, rfl, _⟩
                 · exact (hvn rfl).elim
                 · exact ⟨g, cap, rfl⟩
               clear hvn hrow)
  go_loop [8] (fun i => i = .int .i64 0) (fun _ => 0)
  case atStart => rfl
  case round =>
    subst hrel
    go_wp2
    go_ret
    exact ⟨_, _, rfl, hb⟩
theorem ownNil_any (w : World) : Calls Try.prog 25 #[.slice none 0 0] w fun e w' => e = .returned (.slice none 0 0) ∧ w = w' := by
  have hnil := fun (w : World) (a : Option Addr) (n c n' c' : Nat) => Lib.run_eql_slice_nil (P := Try.prog) w 22 35 a n c n' c' Try.underlying22
  go_enter Try.func25, Try.ntmps25
  go_wp2
  go_loop [8] (fun i => i = .int .i64 0) (fun _ => 0)
  case atStart => rfl
  case round =>
    subst hrel
    go_wp2
    go_ret
    exact ⟨rfl, rfl⟩

theorem delete1_any (bx g cap base : Nat) (k : Key) (p : Post) (w : World) (S : Nat → Prop) (hS : ∀ b, S b → b < w.heap.size) (hbase : base ≤ w.heap.size) (h0 : w.cell? ⟨bx, 0, none⟩ = some (.int .i64 k.o)) (h1 : w.cell? ⟨bx, 1, none⟩ = some (.int .i64 k.s))
    (ho : OwnPosts w base S (.slice (some ⟨g, 0, none⟩) 1 cap) [p]) (hpk : p.k = k) :
    Calls Try.prog 29 #[.slice (some ⟨g, 0, none⟩) 1 cap, .func (.func 31) #[] #[.pointer (some ⟨bx, 0, none⟩)]] w fun e w' => e = .returned (.slice (some ⟨g, 0, none⟩) 0 cap) ∧ Below base w w' := by
  obtain ⟨g', cap', hv, hcap, hbg, hg, hpa⟩ := own_posts_at ho (by simp)
  obtain rfl : g = g' := by have := congrArg Value.ownBlock hv; simpa [Value.ownBlock] using this
  obtain rfl : cap = cap' := by cases hv; rfl
  clear hv
  have hcap1 : 1 ≤ cap := by simpa using hcap
  have hix := dropIdx_any bx (some ⟨g, 0, none⟩) 1 cap k [p] w (fun b => S b ∨ b = g) (fun b hb => hb.elim (hS b) (fun e => e ▸ hg)) (by omega) h0 h1 hpa
  have hi0 : idxD [p] k 0 = 0 := by simp [idxD, hpk]
  rw [hi0] at hix
  have HIX := hid hix; clear hix hi0
  obtain ⟨qs, hq1, hq2, hq3⟩ := ho
  go_enter Try.func29, Try.ntmps29
  go_wp2_with (go_at_call 43; refine HIX.out.mono ?_; rintro e w1 ⟨rfl, hb⟩)
  have hq4 := own_below hq2 hb
  obtain ⟨w2, hrun, hown2, hgb2⟩ := own_clearP hq4 (k := 0) (by simp)
  simp only [Nat.zero_mul, Nat.sub_zero] at hrun
  have hcap0 : (cap == 0) = false := by rw [beq_eq_false_iff_ne]; omega
  go_loop [5, 6] (fun j i => j = .int .i64 0 ∧ i = .int .i64 1) (fun _ _ => 0)
  case atStart => exact ⟨rfl, rfl⟩
  case round =>
    obtain ⟨rfl, rfl⟩ := hrel
    go_wp2
    go_ret
    exact ⟨rfl, (hb.mono hbase).grown hgb2 (Nat.le_trans hbase hb.size) (fun k hk => by cases hk; exact hbg)⟩

set_option maxHeartbeats 400000 in
theorem dropOne_any (A : Option Addr) (c : Nat) (k : Key) (p : Post) (w : World) (S : Nat → Prop) (hS : ∀ b, S b → b < w.heap.size) (hp : PostsAt w S A 1 [p]) (hm : p.at_.length ≤ 1048576) (hmay : mayB [p] = true) (hpk : p.k = k) :
    Calls Try.prog 15 #[.slice A 1 c, .agg #[.int .i64 k.o, .int .i64 k.s]] w (RetLen 0 w) := by
  obtain ⟨b, f, _, _, _, _, rfl, _⟩ := posts_get hp (show 0 < 1 by omega)
  have hS1 : ∀ b, S b → b < (w.alloc (.cells #[.int .i64 k.o, .int .i64 k.s] 32)).heap.size := fun b hb => lt_alloc (hS b hb) _
  have hp1 := posts_keep hp ((Keep.refl S w).alloc hS (.cells #[.int .i64 k.o, .int .i64 k.s] 32))
  have hmc := may_any _ 1 c [p] _ S hS1 (by omega) hp1 (by simpa using hm)
  rw [hmay] at hmc
  have HMC := hid hmc; clear hmc
  go_enter Try.func15, Try.ntmps15
  go_wp2_with (first
    | (go_at_call 5; refine HMC.out.mono ?_; rintro e w1 ⟨rfl, hb1⟩; obtain ⟨hcl, hfz⟩ := bcell hb1)
    | (go_at_call 30
       refine (clonePosts_any _ 1 c [p] w1 S (fun b hb => Nat.lt_of_lt_of_le (hS1 b hb) hb1.size) (by omega) (posts_keep hp1 (Keep.of_below hb1 hS1))).mono ?_
       rintro e w2 ⟨v, rfl, hvn, ho, hb2⟩
       obtain ⟨g, cap, rfl, _, hgb, hgl, _⟩ := own_posts_at ho (by simp)))
  have hsz1 := hb1.size
  have hsz2 := hb2.size
  rw [size_alloc] at hsz1
  have e0 : w2.cell? ⟨w.heap.size, 0, none⟩ = some (.int .i64 k.o) := by rw [hb2.cell (p := ⟨w.heap.size, 0, none⟩) hsz1, hb1.cell (p := ⟨w.heap.size, 0, none⟩) (by rw [size_alloc]; exact Nat.lt_succ_self _)]; simp [go_sem]
  have e1 : w2.cell? ⟨w.heap.size, 1, none⟩ = some (.int .i64 k.s) := by rw [hb2.cell (p := ⟨w.heap.size, 1, none⟩) hsz1, hb1.cell (p := ⟨w.heap.size, 1, none⟩) (by rw [size_alloc]; exact Nat.lt_succ_self _)]; simp [go_sem]
  refine (delete1_any w.heap.size g cap w1.heap.size k p w2 S (fun b hb => by have := hS b hb; omega) hsz2 e0 e1 ho hpk).mono ?_
  rintro e w3 ⟨rfl, hb3⟩
  go_wp2_with (go_at_call 25; refine (own0_any ⟨g, 0, none⟩ cap w3).mono ?_; rintro e w4 ⟨A4, c4, rfl, hb4⟩)
  go_ret
  refine ⟨A4, c4, rfl, ?_⟩
  have h1 : Below w.heap.size w w1 := ((Below.refl _ _).alloc (Nat.le_refl _) _).trans (hb1.mono (by rw [size_alloc]; omega))
  have h2 : Below w.heap.size w w3 := (h1.trans (hb2.mono (by omega))).trans (hb3.mono (by omega))
  exact h2.trans (hb4.mono h2.size)

theorem insNil_any (b f c : Nat) (cs : List Value) (w : World) (hl : cs.length = 3) (hc : ∀ j u, cs[j]? = some u → w.cell? ((⟨b, f, none⟩ : Addr).add j) = some u) (h1 : ∀ u ∈ cs, u.oneCell' = true) :
    Calls Try.prog 28 #[.slice none 0 0, .int .i64 0, .slice (some ⟨b, f, none⟩) 1 c] w (RetLen 1 w) := by
  obtain ⟨i0, hi0, z0, z1, z2⟩ := info_parts postInfo
  have HL := hid (show cs.length = 1 * 3 by omega); clear hl
  have HC := hid hc; clear hc
  have H1 := hid h1; clear h1
  have h3 : 0 + 1 ≤ maxLen := by unfold maxLen; omega
  have h4 : (0 + 1) * 40 ≤ 140737488355328 := by omega
  go_enter Try.func28, Try.ntmps28
  go_wp2_with (at_builtin
               refine wpList_append_own _ rfl _ _ 22 rfl w.heap.size 35 i0 _ 3 40 Try.underlying22 hi0 z0 z1 z2 rfl (by decide) _ _ _ rfl (World.ownsRow_nil w w.heap.size 35 3) ⟨b, f, none⟩ 1 c cs rfl HL.out HC.out H1.out h3 h4 (Nat.le_refl _) ?_
               intro v1 w2 hown1 hg1 hiff1)
  have hv : ∃ g cap, v1 = .slice (some ⟨g, 0, none⟩) 1 cap := by
    rcases hown1.2 with ⟨_, h0⟩ | ⟨g, cap, cur, hv, _⟩
    · omega
    · exact ⟨g, cap, by simpa using hv⟩
  obtain ⟨g, cap, rfl⟩ := hv
  go_ret
  exact ⟨_, _, rfl, (Below.refl _ _).grown hg1 (Nat.le_refl _) (fun k hk => by cases hk)⟩

set_option maxHeartbeats 800000 in
theorem putNil_any (p : Post) (A : Option Addr) (m c : Nat) (w : World) (S : Nat → Prop) (hS : ∀ b, S b → b < w.heap.size) (hi : IntsAt w S A m p.at_) (hm : m ≤ 1048576) (hr : risesB p.at_ = true) :
    Calls Try.prog 14 #[.slice none 0 0, .agg #[.int .i64 p.k.o, .int .i64 p.k.s, .slice A m c]] w (RetLen 1 w) := by
  have hmy := hid (may_any none 0 0 [] (w.alloc (.cells #[.int .i64 p.k.o, .int .i64 p.k.s, .slice A m c] 35)) (fun _ => False) (fun _ h => h.elim) (by omega) SliceAt.nil_ (by simp))
  have hon := hid ownNil_any
  have hbn := hid (fun w => bsf_any none 0 0 [] p.k w (fun _ => False) (fun _ h => h.elim) (by omega) SliceAt.nil_ .nil)
  have hl := hi.len
  have hm0 : 0 < m := by
    have := (risesB_rising hr).2.2
    rw [← hl]; exact List.length_pos_iff.2 this
  obtain ⟨b, f, x, rfl, _⟩ := ints_get hi hm0
  have hk1 := (Keep.refl S w).alloc hS (.cells #[.int .i64 p.k.o, .int .i64 p.k.s, .slice (some ⟨b, f, none⟩) m c] 35)
  go_enter Try.func14, Try.ntmps14
  go_wp2_with (first
    | (go_at_call 5; refine hmy.out.mono ?_; rintro e w1 ⟨rfl, hb1⟩; obtain ⟨hcl, hfz⟩ := bcell hb1)
    | (go_at_call 25; refine (hon.out _).mono ?_; rintro e w2 ⟨rfl, rfl⟩)
    | (go_at_call 11; refine (rises_any _ m c p.at_ w1 S hm (ints_keep hi (hk1.trans (Keep.of_below hb1 (fun b hb => lt_alloc (hS b hb) _))))).mono ?_; rw [hr]; rintro e w2 ⟨rfl, rfl⟩))
  have hsz1 := hb1.size
  rw [size_alloc] at hsz1
  have hS1 : ∀ b, S b → b < w1.heap.size := fun b hb => by have := hS b hb; omega
  have hiw1 := ints_keep hi (hk1.trans (Keep.of_below hb1 (fun b hb => lt_alloc (hS b hb) _)))
  refine (cloneInts_any ⟨b, f, none⟩ m c p.at_ w1 S hS1 hm hiw1).mono ?_
  rintro e w2 ⟨v, rfl, hov, hb2⟩
  obtain ⟨g, cap, rfl⟩ : ∃ g cap, v = .slice (some ⟨g, 0, none⟩) m cap := by
    rcases hov.2 with ⟨_, h0⟩ | ⟨g, cap, cur, hv, _⟩
    · omega
    · exact ⟨g, cap, by rw [hv, hl]⟩
  clear hov
  have hz0 : w.heap.size < w1.heap.size := hsz1
  have hz2 : w.heap.size < w2.heap.size := Nat.lt_of_lt_of_le hsz1 hb2.size
  have f0 : ∀ j, w2.frozen? ⟨w.heap.size, j, none⟩ = false := fun j => by
    rw [hb2.frozen (p := ⟨w.heap.size, j, none⟩) hz0, hb1.frozen (p := ⟨w.heap.size, j, none⟩) (by rw [size_alloc]; exact Nat.lt_succ_self _)]; simp [go_sem]
  have e0 : w2.cell? ⟨w.heap.size, 0, none⟩ = some (.int .i64 p.k.o) := by rw [hb2.cell (p := ⟨w.heap.size, 0, none⟩) hz0, hb1.cell (p := ⟨w.heap.size, 0, none⟩) (by rw [size_alloc]; exact Nat.lt_succ_self _)]; simp [go_sem]
  have e1 : w2.cell? ⟨w.heap.size, 1, none⟩ = some (.int .i64 p.k.s) := by rw [hb2.cell (p := ⟨w.heap.size, 1, none⟩) hz0, hb1.cell (p := ⟨w.heap.size, 1, none⟩) (by rw [size_alloc]; exact Nat.lt_succ_self _)]; simp [go_sem]
  have e2 : w2.cell? ⟨w.heap.size, 2, none⟩ = some (.slice (some ⟨b, f, none⟩) m c) := by rw [hb2.cell (p := ⟨w.heap.size, 2, none⟩) hz0, hb1.cell (p := ⟨w.heap.size, 2, none⟩) (by rw [size_alloc]; exact Nat.lt_succ_self _)]; simp [go_sem]
  have hB2 : Below w.heap.size w w2 := (((Below.refl _ _).alloc (Nat.le_refl _) _).trans (hb1.mono (by rw [size_alloc]; omega))).trans (hb2.mono (by omega))
  have hbn0 : Hid (∀ w, Calls Try.prog 27 #[.slice none 0 0, .agg #[.int .i64 p.k.o, .int .i64 p.k.s], .func (.func 21) #[] #[]] w fun e w' => e = .returned (.tuple #[.int .i64 0, .bool false]) ∧ Below w.heap.size w w') := hbn
  clear hcl hfz
  go_wp2_with (go_at_call 27; refine (hbn0.out _).mono ?_; rintro e w3 ⟨rfl, hb3⟩; obtain ⟨hcl, hfz⟩ := bcell hb3
               have hz3 : w.heap.size < w3.heap.size := Nat.lt_of_lt_of_le hz2 (by have := hb3.size; simpa using this))
  refine (insNil_any w3.heap.size 0 1 [.int .i64 p.k.o, .int .i64 p.k.s, .slice (some ⟨g, 0, none⟩) m cap] _ rfl (cells_new w3 _ _) (ones3 _ _ _ _ _)).mono ?_
  rintro e w4 ⟨A4, c4, rfl, hb4⟩
  go_wp2
  go_ret
  refine ⟨A4, c4, rfl, ?_⟩
  have h3 : Below w.heap.size w w3 := (hB2.setCell (p := ⟨w.heap.size, 2, none⟩) (Nat.le_refl _) _).trans (hb3.mono (by have := hB2.size; simpa using this))
  exact (h3.alloc h3.size _).trans (hb4.mono (le_alloc h3.size _))
end Go.Proofs.Ytajggbekljohpaa
