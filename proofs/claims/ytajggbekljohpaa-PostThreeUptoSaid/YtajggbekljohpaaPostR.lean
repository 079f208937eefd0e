/- For every three lists of posts, grapevinelaw10.PostThree returns true and leaves its arguments as they read before (PostThreeUptoSaid). Conditions: the arguments together are of bulk at most 1048576 ('uptoSmall'); nothing else beyond what the row's own cells say. -/
import Derived.Test.YtajggbekljohpaaPostQ
import Derived.WalkKit
import Derived.ProofKit
import Derived.OpenShut
import Derived.JoinedCond
import Derived.Carry
namespace Go.Proofs.Ytajggbekljohpaa
open Go.RowKit Go.ChangeShapes Go.WideShapes Go.ChangeAt

theorem post_of_below {H : Type} {enc : TypeId × Value → H} {P : Program} {f : Func} {s : ChangeSpec} {apart fresh handsOn again : Bool} {W W' : World} {args : Array Value} {v : Value} {ds gs : List (DataW H)} {before pa pv : List MemPlace}
    (hW : DataW.Whole enc P f.params.toList s.vars apart W args.toList ds gs before)
    (hres : ∀ (b : Nat) (sp : Nat → Bool) (hd : Bool), DataW.TrodAll enc P W' b sp hd f.resultTypes.toList (v.resultList f.resultTypes.size) (s.fn H (ds ++ gs)).results [])
    (hargs : ∀ sp : Nat → Bool, (∀ p ∈ before, sp p.block = true) → DataW.TrodAll enc P W' 0 sp true f.params.toList args.toList (s.fn H (ds ++ gs)).args pa)
    (hvars : ∀ sp : Nat → Bool, (∀ p ∈ before, sp p.block = true) → DataW.TrodVars enc P W' sp s.vars (s.fn H (ds ++ gs)).vars pv)
    (hps : before = pa ++ pv) (hb : Below W.heap.size W W')
    (hok : ∀ (j : Nat) (t : TypeId) (r : Value), f.resultTypes[j]? = some t → (v.resultList f.resultTypes.size)[j]? = some r → Value.okWide P W' .any 0 t r) :
    s.post enc P f apart fresh handsOn again W args v W' := by
  have hold : ∀ p ∈ before, (fun b => decide (b < W.heap.size)) p.block = true := fun p hp => by simpa using hW.lt p hp
  have hlt := hW.lt
  refine ⟨ds, gs, before, [], pa, pv, hW, hres _ _ _, hargs _ hold, hvars _ hold, World.keptBut_mono (fun p hp => ⟨hp, ?_⟩) (hb.frame (· ∈ before)), fun _ => ?_⟩
  · rw [hps, List.mem_append] at hp
    exact Or.inr hp
  · obtain ⟨_, _, _, _, _, hz, hn⟩ := hW
    refine ⟨hok, _, _, ([] ++ pa) ++ pv, ⟨[] ++ pa, pv, trodAll_append (hargs _ (fun _ _ => rfl)) (hres _ _ _), hvars _ (fun _ _ => rfl), rfl, ?_, ?_⟩, ?_⟩
    · intro b off hp
      have hp' : MemPlace.cell b off ∈ before := by rw [hps]; simpa using hp
      rw [hb.frozen (hlt _ hp')]
      exact hz b off hp'
    · intro ha
      have := hn ha
      rw [hps] at this
      simpa using this
    · intro p hp _
      rw [hps]
      simpa using hp

theorem own : ownKnob Try.prog.godebug = none := by kernel_rfl

set_option maxRecDepth 100000 in
theorem contract (H : Type) (enc : TypeId × Value → H) (W : World) (base : Nat) (args : Array Value) (ds gs : List (DataW H)) (before : List MemPlace)
    (hval : ∀ (j : Nat) t v, Try.f3.params[j]? = some t → args[j]? = some v → Value.okWide Try.prog W .any base t v)
    (hW : DataW.Whole enc Try.prog Try.f3.params.toList Rows.postThreeSpec.vars false W args.toList ds gs before)
    (hk : Rows.uptoSmall H (ds ++ gs) = true) :
    Calls Try.prog 3 args W fun e W' => ∃ v, e = .returned v ∧ Rows.postThreeSpec.post enc Try.prog Try.f3 false true false false W args v W' := by
  have hW' := hW
  have hlt := hW.lt
  obtain ⟨p, q, hA0, hV, rfl, hfz, hnd⟩ := hW
  have hA : DataW.TrodAll enc Try.prog W 0 (fun _ => true) true Try.f3.params.toList args.toList ds p := hA0
  rw [Try.params3] at hA hval
  obtain ⟨v0, vs0, d0, ds0, p0, q0, hargs, rfl, rfl, h0, r0⟩ := trodAll_cons hA
  obtain ⟨v1, vs1, d1, ds1, p1, q1, rfl, rfl, rfl, h1, r1⟩ := trodAll_cons r0
  obtain ⟨v2, vs2, d2, ds2, p2, q2, rfl, rfl, rfl, h2, r2⟩ := trodAll_cons r1
  obtain ⟨rfl, rfl, rfl⟩ := trodAll_nil r2
  obtain rfl : args = #[v0, v1, v2] := by cases args; simp_all
  obtain ⟨rfl, rfl⟩ := trodVars_none hV
  clear hA0
  have hbk : ∀ d ∈ [d0, d1, d2], Rows.uptoBulk d ≤ 1048576 := fun d hd => by
    have h1 := bulks.part_le hd
    have h2 : Rows.uptoBulkAll ([d0, d1, d2] ++ []) ≤ 1048576 := by simpa [Rows.uptoSmall] using hk
    rw [List.append_nil] at h2
    omega
  have hop : ∀ {v : Value} {d : DataW H} {ps : List MemPlace}, d ∈ [d0, d1, d2] → Value.okWide Try.prog W .any base 22 v → DataW.Trod enc Try.prog W 0 (fun _ => true) true 22 v d ps → ∃ l, PL W v l := by
    intro v d ps hd ho ht
    obtain ⟨A, n, c, rfl⟩ := okWide_slice Try.underlying22 ho
    obtain ⟨fuel, hf⟩ := ht
    exact open_posts Try.underlying22 (by rfl) rfl rfl (by kernel_rfl) (by kernel_rfl) (by rfl) rfl rfl (by kernel_rfl) (by kernel_rfl) (by rfl) (by rfl) (by kernel_rfl) (by rfl) (by rfl) (by kernel_rfl) hf (hbk d hd)
  obtain ⟨a, ha⟩ := hop (by simp) (hval 0 _ v0 rfl rfl) h0
  obtain ⟨b, hb⟩ := hop (by simp) (hval 1 _ v1 rfl rfl) h1
  obtain ⟨c, hc⟩ := hop (by simp) (hval 2 _ v2 rfl rfl) h2
  simp only [List.append_nil] at hW' hlt
  refine (three_any ha hb hc).mono fun e W' ⟨he, hg⟩ => ?_
  subst he
  have hst : ∀ {v : Value} {d : DataW H} {ps : List MemPlace} {sp : Nat → Bool}, (∀ x ∈ ps, x.block < W.heap.size) → (∀ x ∈ ps, sp x.block = true) → DataW.Trod enc Try.prog W 0 (fun _ => true) true 22 v d ps → DataW.Trod enc Try.prog W' 0 sp true 22 v d ps :=
    fun hl hs ht => WideElems.Trod_stays (by kernel_rfl) (by kernel_rfl) (of_decide_eq_true (by kernel_rfl)) ht (fun x hx => hg.same (hl x hx)) hs
  exact ⟨_, rfl, post_of_below (ds := [d0, d1, d2]) (gs := []) (pa := p0 ++ (p1 ++ (p2 ++ []))) (pv := []) (by simpa using hW') (fun _ _ _ => (trodAll_cons_mk (shut_bool Try.underlying4 _) trodAll_mk0))
    (fun sp hs => trodAll_cons_mk (hst (fun x hx => hlt x (by simp [hx])) (fun x hx => hs x (by simp [hx])) h0) (trodAll_cons_mk (hst (fun x hx => hlt x (by simp [hx])) (fun x hx => hs x (by simp [hx])) h1) (trodAll_cons_mk (hst (fun x hx => hlt x (by simp [hx])) (fun x hx => hs x (by simp [hx])) h2) trodAll_mk0)))
    (fun _ _ => rfl) (by simp) hg (ok_one (by kernel_rfl) rfl (okWide_bool_mk Try.underlying4 _))⟩

set_option maxRecDepth 100000 in
theorem lifted (os : Os) (started : os.Started) (H : Type) (enc : TypeId × Value → H) (F : Stop.Interp) :
    ReturnsInHanded {} Try.checked os 3 .any ((Rows.OpenSpec.upto Rows.postThreeSpec).pre6 enc Try.prog Try.f3 Rows.postThreeUptoRow.domain false) (((Rows.OpenSpec.upto Rows.postThreeSpec).at F).post enc Try.prog Try.f3 false true false false) := by
  refine returnsInHanded_of_cond (C := Try.checked) (s := Rows.OpenSpec.upto Rows.postThreeSpec) (k := Rows.uptoSmall) rfl own started (by kernel_rfl) Try.func3
    (OpenSpec.witness (enc := enc) (C := Try.checked) (s := Rows.OpenSpec.upto Rows.postThreeSpec) (k := Rows.uptoSmall) rfl false ⟨#[], #[.slice none 0 0, .slice none 0 0, .slice none 0 0], []⟩ 8 (by kernel_rfl) (by kernel_rfl) (by kernel_rfl)
      (x := ([.nil, .nil, .nil], [], [])) (by kernel_rfl) rfl (by kernel_rfl)) ?_
  intro W base args ds gs before hval hW _ hk _
  exact contract H enc W base args ds gs before hval hW hk

theorem postThree : Rows.PostThreeUptoSaid :=
  OpenClaim.holds_of_cond 3 Try.f3 rfl rfl rfl rfl rfl rfl rfl ⟨rfl, rfl, rfl, rfl, rfl⟩ rfl rfl rfl rfl rfl (by kernel_rfl) Try.func3 (by kernel_rfl)
    (of_decide_eq_true (by kernel_rfl)) (by unfold Func.isWrapper; first | (rw [if_pos (by decide +kernel)]; kernel_rfl) | (rw [if_neg (by decide +kernel)]; exact ⟨rfl, rfl⟩))
    (fun os started H enc _ F => lifted os started H enc F)
end Go.Proofs.Ytajggbekljohpaa
