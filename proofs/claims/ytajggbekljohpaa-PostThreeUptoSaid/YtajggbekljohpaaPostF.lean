/- The keys of the first list of which something is so: post.each. -/
import Derived.Test.YtajggbekljohpaaPostC
import Derived.Test.YtajggbekljohpaaPostD
import Derived.Test.YtajggbekljohpaaPostE
import Derived.Deep.DeepCutAuto
import Derived.Deep.CutBlock
namespace Go.Proofs.Ytajggbekljohpaa
open Go.RowKit

theorem postInfo : (Try.prog.info? 35).map (fun i => (i.zero, i.size, i.bytes)) = some (some (.agg #[.int .i64 0, .int .i64 0, .slice none 0 0]), 3, 40) := by kernel_rfl
def postCells (qs : List (Post × Value)) : List Value := qs.flatMap fun q => [.int .i64 q.1.k.o, .int .i64 q.1.k.s, q.2]
theorem postCells_snoc (qs : List (Post × Value)) (p : Post) (v : Value) : postCells (qs ++ [(p, v)]) = postCells qs ++ [.int .i64 p.k.o, .int .i64 p.k.s, v] := by simp [postCells]
theorem postCells_length (qs : List (Post × Value)) : (postCells qs).length = qs.length * 3 := by
  induction qs with
  | nil => rfl
  | cons q r ih => simp [postCells] at *; omega
theorem postCells_get (qs : List (Post × Value)) (k : Nat) (q : Post × Value) (h : qs[k]? = some q) (j : Nat) (u : Value) (hu : [Value.int .i64 q.1.k.o, .int .i64 q.1.k.s, q.2][j]? = some u) : (postCells qs)[k * 3 + j]? = some u := by
  induction qs generalizing k with
  | nil => simp at h
  | cons x r ih =>
    have hj : j < 3 := by have := (List.getElem?_eq_some_iff.1 hu).1; simpa using this
    cases k with
    | zero =>
      simp at h; subst h
      rw [Nat.zero_mul, Nat.zero_add]
      show ([Value.int .i64 x.1.k.o, .int .i64 x.1.k.s, x.2] ++ postCells r)[j]? = some u
      rw [List.getElem?_append_left (by simpa using hj)]; exact hu
    | succ k =>
      have := ih k (by simpa using h)
      show ([Value.int .i64 x.1.k.o, .int .i64 x.1.k.s, x.2] ++ postCells r)[(k + 1) * 3 + j]? = some u
      rw [List.getElem?_append_right (by simp; omega), ← this]
      congr 1; simp; omega
/-- a row of posts of the call's own; their places lie in S -/
def OwnPosts (w : World) (base : Nat) (S : Nat → Prop) (v : Value) (ps : List Post) : Prop :=
  ∃ qs : List (Post × Value), qs.map (·.1) = ps ∧ w.ownsRow base 35 3 v ps.length (postCells qs) ∧ ∀ q ∈ qs, ∃ A m c, q.2 = .slice A m c ∧ m ≤ c ∧ IntsAt w S A m q.1.at_
theorem own_posts_at {w : World} {base : Nat} {S : Nat → Prop} {v : Value} {ps : List Post} (h : OwnPosts w base S v ps) (hne : 0 < ps.length) :
    ∃ g cap, v = .slice (some ⟨g, 0, none⟩) ps.length cap ∧ ps.length ≤ cap ∧ base ≤ g ∧ g < w.heap.size ∧ PostsAt w (fun b => S b ∨ b = g) (some ⟨g, 0, none⟩) ps.length ps := by
  obtain ⟨qs, hq, ⟨hl, hr⟩, hi⟩ := h
  rcases hr with ⟨_, h0⟩ | ⟨g, cap, cur, hv, hb, hh, hnc, hcm, hcs, htk⟩
  · omega
  · have hg : g < w.heap.size := by
      rcases Nat.lt_or_ge g w.heap.size with h1 | h1
      · exact h1
      · rw [Array.getElem?_eq_none h1] at hh; cases hh
    refine ⟨g, cap, hv, hnc, hb, hg, rfl, fun _ => ⟨g, 0, rfl, .inr rfl, fun k x hx => ?_⟩⟩
    have hql : qs.length = ps.length := by rw [← hq]; simp
    have hk : k < qs.length := by have := (List.getElem?_eq_some_iff.1 hx).1; omega
    have hqk : qs[k]? = some qs[k] := List.getElem?_eq_getElem hk
    have hx1 : qs[k].1 = x := by
      rw [← hq, List.getElem?_map, hqk] at hx; simpa using hx
    obtain ⟨A, m, c, h2, hmc, hints⟩ := hi qs[k] (List.getElem_mem hk)
    rw [hx1] at hints
    refine ⟨[.int .i64 x.k.o, .int .i64 x.k.s, .slice A m c], rfl, fun j u hu => ?_, A, m, c, rfl, hmc, ints_more hints fun b hb => .inl hb⟩
    have hj : j < 3 := by have := (List.getElem?_eq_some_iff.1 hu).1; simpa using this
    have := postCells_get qs k qs[k] hqk j u (by rw [hx1, h2]; exact hu)
    rw [← htk, List.getElem?_take_of_lt (by omega)] at this
    rw [World.cell?, hh]
    simp only [Option.isSome_none, Bool.false_eq_true, if_false, Nat.zero_add]
    simpa using this
theorem own_posts_keep {w w' : World} {base : Nat} {S : Nat → Prop} {v : Value} {ps : List Post} (h : OwnPosts w base S v ps) (hS : ∀ b, S b → b < w.heap.size) (hb : Below w.heap.size w w') : OwnPosts w' base S v ps := by
  obtain ⟨qs, h1, h2, h3⟩ := h
  refine ⟨qs, h1, own_below h2 hb, fun q hq => ?_⟩
  obtain ⟨A, m, c, e, hmc, hi⟩ := h3 q hq
  exact ⟨A, m, c, e, hmc, ints_keep hi (Keep.of_below hb hS)⟩

/-- the posts that all lists have at p's key -/
def line (rest : List (List Post)) (p : Post) : List Post := p :: rest.filterMap fun l => l.find? (fun x => x.k == p.k)
def eachOk (isB : List Post → Bool) (n : Nat) (rest : List (List Post)) (p : Post) : Bool := (line rest p).length == n && isB (line rest p)
def eachL (isB : List Post → Bool) (n : Nat) (rest : List (List Post)) (l : List Post) : List Key := (l.filter (eachOk isB n rest)).map (·.k)
def eachD (isB : List Post → Bool) (ls : List (List Post)) : List Key :=
  match ls with
  | [] => []
  | l :: rest => if oddB ls then [] else eachL isB ls.length rest l

/-- the contract of the test that post.each is given -/
def IsCon (fid : Nat) (isB : List Post → Bool) : Prop :=
  ∀ (w : World) (A : Option Addr) (n c : Nat) (ps : List Post) (S : Nat → Prop), (∀ b, S b → b < w.heap.size) → 0 < n → n ≤ 1048576 → n ≤ c → PostsAt w S A n ps → (∀ p ∈ ps, p.at_.length ≤ 1048576 ∧ risesB p.at_ = true) →
    Calls Try.prog fid #[.slice A n c] w fun e w' => e = .returned (.bool (isB ps)) ∧ Below w.heap.size w w'

set_option maxRecDepth 100000 in
set_option maxHeartbeats 1600000 in
theorem each_any (fid : Nat) (isB : List Post → Bool) (eg : ∀ (args : Array Value) (w : World), (callFunc fid args).run Try.prog w = .ok (.enter fid args) w) (hIs : IsCon fid isB)
    (A : Option Addr) (n c : Nat) (ls : List (List Post)) (w : World) (S : Nat → Prop) (hS : ∀ b, S b → b < w.heap.size) (hn : n ≤ 1048576) (hc : n ≤ c) (hp : RowsAt w S A n ls)
    (hm : ∀ l ∈ ls, l.length ≤ 1048576 ∧ ∀ p ∈ l, p.at_.length ≤ 1048576) :
    Calls Try.prog 16 #[.slice A n c, .func (.func fid) #[] #[]] w (RetKeys (eachD isB ls) w) := by
  have hl := hid hp.len
  have HIS := hid hIs; clear hIs
  rcases Nat.eq_zero_or_pos n with h0 | h0
  · subst h0
    have hnil : Hid (eachD isB ls = []) := hid (by rw [hp.eq_nil]; rfl)
    go_enter Try.func16, Try.ntmps16
    go_wp2
    go_ret
    exact ⟨_, rfl, by rw [hnil.out]; exact World.ownsRow_nil _ _ _ _, Below.refl _ _⟩
  · have hn0 : ((n : Int) == 0) = false := by rw [beq_eq_false_iff_ne]; omega
    cases hodd : oddB ls
    · obtain ⟨b, f, l0, A0, m0, c0, rfl, hb, d0, hmc0, hl0, hx0, hd0⟩ := rows_get hp h0
      have hls : Hid (ls = l0 :: ls.drop 1) := hid hd0
      clear hd0
      simp only [Nat.add_zero] at d0
      have HX0 := hid hx0; clear hx0
      obtain ⟨hm0a, hm0b⟩ := hm l0 (List.mem_of_getElem? HX0.out)
      have hl0l := hid hl0.len
      rw [hl0l.out] at hm0a
      have hbl := cell_lt d0
      have hl' := hid hl0; clear hl0
      have hmy : ∀ l ∈ ls, Rising l ∧ l.length ≤ 1048576 ∧ ∀ p ∈ l, p.at_.length ≤ 1048576 ∧ risesB p.at_ = true := fun l hmem => by
        have h1 : mayB l = true := by have := hodd; simp only [oddB, List.any_eq_false] at this; simpa using this l hmem
        exact ⟨mayB_rising h1, (hm l hmem).1, fun p hp => ⟨(hm l hmem).2 p hp, (mayFrom_rising l none h1).2.1 p hp⟩⟩
      have HMY := hid hmy; clear hmy
      obtain ⟨ik, hik, zk0, zk1, zk2⟩ := info_parts keyInfo
      obtain ⟨ip, hip, zp0, zp1, zp2⟩ := info_parts postInfo
      go_enter Try.func16, Try.ntmps16
      go_wp2_with (go_at_call 18; refine (odd_any _ n c ls _ S hS hn hp hm).mono ?_; rw [hodd]; rintro e w1 ⟨rfl, hb1⟩; obtain ⟨hcl, hfz⟩ := bcell hb1)
      clear hcl hfz
      go_loopw [5, 24] (fun v i wr => ∃ (k : Nat) (out : List Key), k ≤ m0 ∧ i = .int .i64 k ∧ out.length ≤ k ∧ OwnKeys wr w.heap.size v out ∧ Below w.heap.size w wr ∧ Hid (eachL isB n (ls.drop 1) l0 = out ++ eachL isB n (ls.drop 1) (l0.drop k))) (fun _ i _ => m0 - (intOf i).toNat)
      case atStart => exact ⟨0, [], by omega, rfl, by simp, World.ownsRow_nil _ _ _ _, hb1, hid rfl⟩
      case round =>
        obtain ⟨k, out, hk, rfl, hol, hown, hB, hh⟩ := hrel
        obtain ⟨wo, rfl⟩ : ∃ wo : World, wo = wr := ⟨_, rfl⟩
        by_cases hlt : k < m0
        · have hpk := rows_keep hp (Keep.of_below hB hS)
          have hl0k := posts_keep hl'.out (Keep.of_below hB hS)
          obtain ⟨b2, f2, x, A2, m2, c2, rfl, hb2, e0, e1, e2, hmc2, hx2, hxk, hd⟩ := posts_get hl0k hlt
          have HX := hid hxk; clear hxk
          have HD := hid hd; clear hd
          have hS' : ∀ b, S b → b < wo.heap.size := fun b hb => Nat.lt_of_lt_of_le (hS b hb) hB.size
          go_upto_region 8 with (fail)
          go_cut [31, 32, 33] (fun s31 s32 s33 wx => ∃ A31 c31, s31 = .slice A31 (n - 1) c31 ∧ RowsAt w S A31 (n - 1) (ls.drop 1) ∧ s32 = .int .i64 ↑(n - 1) ∧ s33 = .int .i64 0 ∧
            wx = (wo.alloc (.cells #[.int .i64 x.k.o, .int .i64 x.k.s, .slice A2 m2 c2] 35)).alloc (.cells #[.int .i64 x.k.o, .int .i64 x.k.s, .slice A2 m2 c2] 35))
          case first =>
            have hcut := hp.cut (m := 1) (by omega) hc
            have HCUT := hid hcut; clear hcut
            by_cases hc1 : c = 1
            · subst hc1
              obtain rfl : n = 1 := by omega
              go_wp2
              go_meet
              exact ⟨_, _, rfl, by simpa using HCUT.out, rfl, rfl, rfl⟩
            · have hc1' : (c == 1) = false := by simpa using hc1
              go_wp2
              go_meet
              refine ⟨_, _, rfl, ?_, rfl, rfl, rfl⟩
              have := HCUT.out
              rw [if_neg hc1] at this
              simpa [Addr.add] using this
          case rest =>
            obtain ⟨A31, c31, rfl, hrows, rfl, rfl, rfl⟩ := hcut
            go_wp2_with fail
            have hB1 : Below w.heap.size w (wo.alloc (.cells #[.int .i64 x.k.o, .int .i64 x.k.s, .slice A2 m2 c2] 35)) := hB.alloc hB.size _
            go_loopw [8, 33] (fun v i wi => ∃ (j : Nat) (L : List Post), j ≤ n - 1 ∧ i = .int .i64 j ∧ L.length ≤ j + 1 ∧ 0 < L.length ∧ Hid (∀ p ∈ L, p.at_.length ≤ 1048576 ∧ risesB p.at_ = true) ∧ OwnPosts wi (wo.heap.size + 1) S v L ∧
              Below (wo.heap.size + 1) (wo.alloc (.cells #[.int .i64 x.k.o, .int .i64 x.k.s, .slice A2 m2 c2] 35)) wi ∧ Hid (line (ls.drop 1) x = L ++ ((ls.drop 1).drop j).filterMap fun l => l.find? (fun y => y.k == x.k))) (fun _ i _ => n - 1 - (intOf i).toNat)
            case atStart =>
              refine ⟨0, [x], by omega, rfl, by simp, by simp, hid (fun p hp => ?_), ?_, (Below.refl _ _).alloc (by simp) _, hid rfl⟩
              · obtain rfl : p = x := by simpa using hp
                exact (HMY.out l0 (List.mem_of_getElem? HX0.out)).2.2 p (List.mem_of_getElem? HX.out)
              · exact ⟨[(x, .slice A2 m2 c2)], rfl, own_lit_at (w := wo.alloc _) (size_alloc _ _) [.int .i64 x.k.o, .int .i64 x.k.s, .slice A2 m2 c2] 35 3 1 (Nat.le_refl _) rfl (by unfold maxLen; omega), fun q hq => by
                  obtain rfl : q = (x, .slice A2 m2 c2) := by simpa using hq
                  exact ⟨A2, m2, c2, rfl, hmc2, ints_keep hx2 (((Keep.refl S wo).alloc hS' _).alloc (fun b hb => lt_alloc (hS' b hb) _) _)⟩⟩
            case round =>
              obtain ⟨j, L, hj, rfl, hL, hL0, hLm, hoL, hBi, hhl⟩ := hrel
              obtain ⟨wi, rfl⟩ : ∃ wi : World, wi = wr := ⟨_, rfl⟩
              by_cases hlj : j < n - 1
              · have hsz := hBi.size
                have hz1 : wo.heap.size < wi.heap.size := by rw [size_alloc] at hsz; omega
                have hBw : Below w.heap.size w wi := hB1.trans (hBi.mono (by have := hB.size; omega))
                have hSi : ∀ b, S b → b < wi.heap.size := fun b hb => Nat.lt_of_lt_of_le (hS b hb) hBw.size
                have e0 : wi.cell? ⟨wo.heap.size, 0, none⟩ = some (.int .i64 x.k.o) := by rw [hBi.cell (p := ⟨wo.heap.size, 0, none⟩) (by simp)]; simp [go_sem]
                have e1 : wi.cell? ⟨wo.heap.size, 1, none⟩ = some (.int .i64 x.k.s) := by rw [hBi.cell (p := ⟨wo.heap.size, 1, none⟩) (by simp)]; simp [go_sem]
                obtain ⟨b3, f3, l, A3, m3, c3, rfl, hb3, g0, hmc3, hl3, hlk, hld⟩ := rows_get (rows_keep hrows (Keep.of_below hBw hS)) hlj
                have HLK := hid hlk; clear hlk
                have HLD := hid hld; clear hld
                have hlmem : l ∈ ls := List.mem_of_mem_drop (List.mem_of_getElem? HLK.out)
                obtain ⟨hris, hlen, hlp⟩ := HMY.out l hlmem
                have HLP := hid hlp; clear hlp
                rw [hl3.len] at hlen
                have hfi := find_any A3 m3 c3 l x.k wi S hSi hlen hl3 hris
                have hst : Hid (line (ls.drop 1) x = (match l.find? (fun y => y.k == x.k) with | none => L | some y => L ++ [y]) ++ ((ls.drop 1).drop (j + 1)).filterMap fun l => l.find? (fun y => y.k == x.k)) := hid (by
                  rw [hhl.out, HLD.out, List.filterMap_cons]; cases l.find? (fun y => y.k == x.k) <;> simp)
                cases hfo : l.find? (fun y => y.k == x.k) with
                | none =>
                  rw [hfo] at hfi hst
                  have HFI := hid hfi; clear hfi
                  go_wp2_with (go_at_call 32; refine HFI.out.mono ?_; rintro e w2 ⟨rfl, hb2'⟩; obtain ⟨hcl, hfz⟩ := bcell hb2')
                  refine ⟨⟨j + 1, L, by omega, by go_num, by omega, hL0, hLm, own_posts_keep hoL hSi (hb2'.alloc hb2'.size _), ?_, hst⟩, by simp [intOf]; omega⟩
                  exact (hBi.trans (hb2'.mono (by omega))).alloc (by have := hb2'.size; omega) _
                | some y =>
                  rw [hfo] at hfi hst
                  have HFI := hid hfi; clear hfi
                  obtain ⟨qs, hq1, hq2, hq3⟩ := hoL
                  have HQ1 := hid hq1; clear hq1
                  have HQ3 := hid hq3; clear hq3
                  have h3 : L.length + 1 ≤ maxLen := by unfold maxLen; omega
                  have h4 : (L.length + 1) * 40 ≤ 140737488355328 := by omega
                  go_wp2_with (first
                    | (go_at_call 32; refine HFI.out.mono ?_; rintro e w2 ⟨⟨Ay, my, cy, hmy, hiy, rfl⟩, hb2'⟩; obtain ⟨hcl, hfz⟩ := bcell hb2'
                       have hs1 : wo.heap.size + 1 ≤ ((w2.alloc (.cells #[.int .i64 y.k.o, .int .i64 y.k.s, .slice Ay my cy] 35)).alloc (.cells #[.int .i64 y.k.o, .int .i64 y.k.s, .slice Ay my cy] 35)).heap.size := by
                         have := hb2'.size; simp only [size_alloc]; omega)
                    | (at_builtin
                       refine wpList_append_own _ rfl _ _ 22 rfl (wo.heap.size + 1) 35 ip _ 3 40 Try.underlying22 hip zp0 zp1 zp2 rfl (by decide) _ _ _ rfl (((own_below hq2 hb2').alloc _).alloc _) ⟨w2.heap.size + 1, 0, none⟩ 1 1 [.int .i64 y.k.o, .int .i64 y.k.s, .slice Ay my cy] rfl rfl (cells_new_at (w2.alloc _) (size_alloc _ _) _ _) (ones3 _ _ _ _ _) h3 h4 hs1 ?_
                       intro v1 w3 hown1 hg1 hiff1
                       clear hiff1))
                  have hb5 : Below (wo.heap.size + 1) (wo.alloc (.cells #[.int .i64 x.k.o, .int .i64 x.k.s, .slice A2 m2 c2] 35)) w3 :=
                    (((hBi.trans (hb2'.mono (by omega))).alloc (by have := hb2'.size; omega) _).alloc (by have := hb2'.size; simp only [size_alloc]; omega) _).grown hg1 hs1 (fun k hk => (hq2.lt k hk).1)
                  refine ⟨⟨j + 1, L ++ [y], by omega, by go_num, by simp; omega, by simp, hid (fun p hp => ?_), ?_, hb5, hst⟩, by simp [intOf]; omega⟩
                  · rcases List.mem_append.1 hp with hp | hp
                    · exact hLm.out p hp
                    · obtain rfl : p = y := by simpa using hp
                      exact HLP.out p (List.mem_of_find?_eq_some hfo)
                  · refine ⟨qs ++ [(y, .slice Ay my cy)], by simp [HQ1.out], ?_, fun q hq => ?_⟩
                    · rw [postCells_snoc, List.length_append]
                      exact hown1
                    · have hk3 : Keep S wi w3 := by
                        intro b hb
                        have h1 := hSi b hb
                        have h2 := (((Keep.of_below hb2' hSi).alloc (fun b hb => Nat.lt_of_lt_of_le (hSi b hb) hb2'.size) (.cells #[.int .i64 y.k.o, .int .i64 y.k.s, .slice Ay my cy] 35)).alloc (fun b hb => lt_alloc (Nat.lt_of_lt_of_le (hSi b hb) hb2'.size) _) (.cells #[.int .i64 y.k.o, .int .i64 y.k.s, .slice Ay my cy] 35)) b hb
                        rw [← h2]
                        refine hg1.block b (by have := hb2'.size; simp only [size_alloc]; omega) (fun e => ?_)
                        have := (hq2.lt b e.symm).1
                        have := hS' b hb
                        omega
                      rcases List.mem_append.1 hq with hq | hq
                      · obtain ⟨A, m, c, e, hmc, hi⟩ := HQ3.out q hq
                        exact ⟨A, m, c, e, hmc, ints_keep hi hk3⟩
                      · obtain rfl : q = (y, .slice Ay my cy) := by simpa using hq
                        exact ⟨Ay, my, cy, rfl, hmy, ints_keep hiy hk3⟩
              · obtain rfl : j = n - 1 := by omega
                have hline : Hid (line (ls.drop 1) x = L) := hid (by
                  rw [hhl.out, List.drop_eq_nil_of_le (by rw [List.length_drop, hl.out]; omega)]; simp)
                obtain ⟨g, cap, rfl, hcap, hgb, hgl, hpL⟩ := own_posts_at hoL hL0
                have hsz := hBi.size
                have hz1 : wo.heap.size < wi.heap.size := by rw [size_alloc] at hsz; omega
                have hBw : Below w.heap.size w wi := hB1.trans (hBi.mono (by have := hB.size; omega))
                have e0 : wi.cell? ⟨wo.heap.size, 0, none⟩ = some (.int .i64 x.k.o) := by rw [hBi.cell (p := ⟨wo.heap.size, 0, none⟩) (by simp)]; simp [go_sem]
                have e1 : wi.cell? ⟨wo.heap.size, 1, none⟩ = some (.int .i64 x.k.s) := by rw [hBi.cell (p := ⟨wo.heap.size, 1, none⟩) (by simp)]; simp [go_sem]
                have hownr : wi.ownsRow w.heap.size 32 2 u5 out.length (keyCells out) := by
                  exact own_below (hown.alloc (.cells #[.int .i64 x.k.o, .int .i64 x.k.s, .slice A2 m2 c2] 35)) (w' := wi) (by rw [size_alloc]; exact hBi)
                have hSi : ∀ b, S b → b < wi.heap.size := fun b hb => Nat.lt_of_lt_of_le (hS b hb) hBw.size
                have hst : Hid (eachL isB n (ls.drop 1) l0 = (if eachOk isB n (ls.drop 1) x then out ++ [x.k] else out) ++ eachL isB n (ls.drop 1) (l0.drop (k + 1))) := hid (by
                  rw [hh.out, HD.out]; unfold eachL; rw [List.filter_cons]; split <;> simp)
                have HLI := hid hline.out
                by_cases hLn : L.length = n
                · have hcall := HIS.out wi (some ⟨g, 0, none⟩) L.length cap L (fun b => S b ∨ b = g) (fun b hb => hb.elim (hSi b) (fun e => e ▸ hgl)) hL0 (by omega) hcap hpL hLm.out
                  rw [hLn] at hcall
                  have hLn' : ((L.length : Int) == (n : Int)) = true := by rw [beq_iff_eq]; omega
                  cases hisb : isB L
                  · rw [hisb] at hcall
                    have HCALL := hid hcall; clear hcall
                    have hok : Hid (eachOk isB n (ls.drop 1) x = false) := hid (by unfold eachOk; rw [hline.out, hisb]; simp)
                    rw [hok.out] at hst
                    go_wp2_with (refine HCALL.out.mono ?_; rintro e w2 ⟨rfl, hb2'⟩)
                    refine ⟨⟨k + 1, out, by omega, by go_num, by omega, own_below hownr hb2', hBw.trans (hb2'.mono hBw.size), hst⟩, by simp [intOf]; omega⟩
                  · rw [hisb] at hcall
                    have HCALL := hid hcall; clear hcall
                    have hok : Hid (eachOk isB n (ls.drop 1) x = true) := hid (by unfold eachOk; rw [hline.out, hisb]; simp [hLn])
                    rw [hok.out] at hst
                    have h3 : out.length + 1 ≤ maxLen := by unfold maxLen; omega
                    have h4 : (out.length + 1) * 16 ≤ 140737488355328 := by omega
                    go_wp2_with (first
                      | (refine HCALL.out.mono ?_; rintro e w2 ⟨rfl, hb2'⟩; obtain ⟨hcl, hfz⟩ := bcell hb2'
                         have hs1 : w.heap.size ≤ (w2.alloc (.cells #[.int .i64 x.k.o, .int .i64 x.k.s] 32)).heap.size := by
                           have := hb2'.size; have := hBw.size; simp only [size_alloc]; omega)
                      | (at_builtin
                         refine wpList_append_own _ rfl _ _ 27 rfl w.heap.size 32 ik _ 2 16 Try.underlying27 hik zk0 zk1 zk2 rfl (by decide) _ _ _ rfl ((own_below hownr hb2').alloc _) ⟨w2.heap.size, 0, none⟩ 1 1 [.int .i64 x.k.o, .int .i64 x.k.s] rfl rfl (cells_new w2 _ _) (ones2 _ _) h3 h4 hs1 ?_
                         intro v1 w3 hown1 hg1 hiff1
                         clear hiff1))
                    refine ⟨⟨k + 1, out ++ [x.k], by omega, by go_num, by simp; omega, ?_, ?_, hst⟩, by simp [intOf]; omega⟩
                    · unfold OwnKeys
                      rw [keyCells_snoc, List.length_append]
                      exact hown1
                    · have h5 : Below w.heap.size w w2 := hBw.trans (hb2'.mono hBw.size)
                      exact (h5.alloc h5.size _).grown hg1 (le_alloc h5.size _) (fun k hk => (hownr.lt k hk).1)
                · have hLn' : ((L.length : Int) == (n : Int)) = false := by rw [beq_eq_false_iff_ne]; omega
                  have hok : Hid (eachOk isB n (ls.drop 1) x = false) := hid (by unfold eachOk; rw [hline.out, show (L.length == n) = false from beq_eq_false_iff_ne.2 hLn]; rfl)
                  rw [hok.out] at hst
                  go_wp2
                  exact ⟨⟨k + 1, out, by omega, by go_num, by omega, hownr, hBw, hst⟩, by simp [intOf]; omega⟩
        · obtain rfl : k = m0 := by omega
          have hfin : Hid (eachD isB ls = out) := hid (by
            have : eachD isB ls = eachL isB n (ls.drop 1) l0 := by
              rw [hls.out]; simp only [eachD]; rw [← hls.out, hodd, hl.out]; rfl
            rw [this, hh.out, show l0.drop k = [] from List.drop_eq_nil_of_le (by rw [hl0l.out]; omega)]; simp [eachL])
          go_wp2
          go_ret
          exact ⟨u5, rfl, by rw [hfin.out]; exact hown, hB⟩
    · have hnil : Hid (eachD isB ls = []) := hid (by
        cases ls with
        | nil => rfl
        | cons l r => simp [eachD, hodd])
      go_enter Try.func16, Try.ntmps16
      go_wp2_with (go_at_call 18; refine (odd_any A n c ls _ S hS hn hp hm).mono ?_; rw [hodd]; rintro e w1 ⟨rfl, hb1⟩)
      go_ret
      exact ⟨_, rfl, by rw [hnil.out]; exact World.ownsRow_nil _ _ _ _, hb1⟩
end Go.Proofs.Ytajggbekljohpaa
