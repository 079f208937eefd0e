/- A region drawn in any order whose operations each depend only on what they wait for: each operation is shown once. -/
import Derived.Test.YtajggbekljohpaaMem
import Derived.Deep.RegionHeld3
namespace Go.Proofs.Ytajggbekljohpaa
open Go.RowKit

section
variable {P : Program} {ops : Array Oper} {Q : Exit → Act → World → Prop}

def dstsOf (ops : Array Oper) : List Tmp := ops.toList.filterMap (·.dst)
def slots (ops : Array Oper) (a : Act) (τ : Nat → Value) : Act :=
  { a with tmps := ((List.range a.tmps.size).map fun t => if (dstsOf ops).contains t then τ t else a.tmps.getD t undef).toArray }
def AllV (V : Nat → Value → World → Prop) (τ : Nat → Value) (w : World) : List Nat → Prop
  | [] => True
  | t :: ts => V t (τ t) w ∧ AllV V τ w ts
def AllZip {α β : Type} (F : α → β → Prop) : List α → List β → Prop
  | [], _ => True
  | o :: os, l :: ls => F o l ∧ AllZip F os ls
  | _ :: _, [] => False
def needOK (ops : Array Oper) (pre : List Tmp) (o : Oper) (ts : List Tmp) : Bool :=
  ts.all fun t => pre.contains t || o.after.any fun e => Region.binds .any e && (ops[e.on]?.bind (·.dst)) == some t
def needsOK (ops : Array Oper) (pre : List Tmp) : List Oper → List (List Tmp) → Bool
  | [], _ => true
  | o :: os, l :: ls => needOK ops pre o l && needsOK ops pre os ls
  | _ :: _, [] => false
def dagOK (ops : Array Oper) : Nat → List Oper → Bool
  | _, [] => true
  | k, o :: os => (o.after.all fun e => !Region.binds .any e || decide (e.on < k)) && dagOK ops (k + 1) os

def StepJ (P : Program) (ops : Array Oper) (Q : Exit → Act → World → Prop) (V : Nat → Value → World → Prop) (R : World → World → Prop) (w₀ : World) (a : Act) (sl : (Nat → Value) → Act) (o : Oper) (ts : List Tmp) : Prop :=
  ∀ (τ : Nat → Value) (w : World), R w₀ w → (∀ t, t ∉ dstsOf ops → τ t = a.tmps.getD t undef) → AllV V τ w ts → ∀ K : Act → World → Prop,
    Shut (∀ v w', R w w' → (match o.dst with | some d => V d v w' | none => True) → K ((sl τ).put o.dst v) w') →
    if Region.wanted o (yielded ops (sl τ).tmps) = true then o.wp P (sl τ) w K Q else K ((sl τ).put o.dst undef) w

theorem allV_of {V : Nat → Value → World → Prop} {τ : Nat → Value} {w : World} : ∀ ts : List Nat, (∀ t ∈ ts, V t (τ t) w) → AllV V τ w ts
  | [], _ => trivial
  | t :: ts, h => ⟨h t (by simp), allV_of ts fun u hu => h u (by simp [hu])⟩

theorem zip_get {F : Oper → List Tmp → Prop} {pre : List Tmp} : ∀ (os : List Oper) (ls : List (List Tmp)) (i : Nat) (o : Oper), AllZip F os ls → needsOK ops pre os ls = true → os[i]? = some o → ∃ l, F o l ∧ needOK ops pre o l = true
  | [], _, i, o, _, _, h => by simp at h
  | o' :: os, l :: ls, 0, o, hz, hn, h => by
    simp at h; subst h
    simp only [needsOK, Bool.and_eq_true] at hn
    exact ⟨l, hz.1, hn.1⟩
  | o' :: os, l :: ls, i + 1, o, hz, hn, h => by
    simp only [needsOK, Bool.and_eq_true] at hn
    exact zip_get os ls i o hz.2 hn.2 (by simpa using h)
  | _ :: _, [], _, _, hz, _, _ => hz.elim

theorem dag_get : ∀ (os : List Oper) (k i : Nat) (o : Oper), dagOK ops k os = true → os[i]? = some o → ∀ e ∈ o.after, Region.binds .any e = true → e.on < k + i
  | [], _, i, o, _, h => by simp at h
  | o' :: os, k, 0, o, hd, h => by
    simp at h; subst h
    simp only [dagOK, Bool.and_eq_true, Array.all_eq_true_iff_forall_mem, Bool.or_eq_true, decide_eq_true_eq] at hd
    intro e he hb
    rcases hd.1 e he with h' | h'
    · simp [hb] at h'
    · simpa using h'
  | o' :: os, k, i + 1, o, hd, h => by
    simp only [dagOK, Bool.and_eq_true] at hd
    intro e he hb
    have := dag_get os (k + 1) i o hd.2 (by simpa using h) e he hb
    omega

/-- how many are not through -/
def open' (n : Nat) (listed : Array Bool) : Nat := (List.range n).countP fun i => !listed.getD i true

theorem open_set {n : Nat} {listed : Array Bool} {i : Nat} (hi : i < n) (h : listed.getD i true = false) : open' n (listed.setIfInBounds i true) + 1 ≤ open' n listed := by
  unfold open'
  induction n with
  | zero => omega
  | succ n ih =>
    rw [List.range_succ, List.countP_append, List.countP_append]
    have e1 : ∀ l : Array Bool, List.countP (fun i => !l.getD i true) [n] = if l.getD n true then 0 else 1 := fun l => by
      by_cases h' : l.getD n true = true <;> simp [h', -Array.getD_eq_getD_getElem?]
    rw [e1, e1]
    by_cases hin : i = n
    · subst hin
      have h2 : (listed.setIfInBounds i true).getD i true = true := by
        by_cases hl : i < listed.size
        · simp [hl]
        · simp [hl]
      have h3 : List.countP (fun j => !(listed.setIfInBounds i true).getD j true) (List.range i) ≤ List.countP (fun j => !listed.getD j true) (List.range i) := by
        apply List.countP_mono_left
        intro j hj hb
        have hne : i ≠ j := by have := List.mem_range.1 hj; omega
        rw [getD_set_ne true hne] at hb
        exact hb
      rw [h2, h]
      simp
      simpa using h3
    · have := ih (by omega)
      rw [getD_set_ne true hin]
      omega

theorem slots_put {a : Act} {τ : Nat → Value} {d : Tmp} {v : Value} (hd : d ∈ dstsOf ops) : (slots ops a τ).put (some d) v = slots ops a (fun t => if t = d then v else τ t) := by
  simp only [slots, Act.put]
  congr 1
  apply Array.ext'
  simp only [List.setIfInBounds_toArray]
  apply List.ext_getElem?
  intro k
  rw [List.getElem?_set]
  by_cases hk : k < a.tmps.size
  · by_cases hkd : d = k
    · subst hkd
      simp [hk, hd]
    · have : ¬ k = d := fun h => hkd h.symm
      simp [hk, hkd, this]
  · simp [hk]
    intro h; subst h
    exact Nat.le_of_not_lt hk

theorem slots_self {a : Act} : slots ops a (fun t => a.tmps.getD t undef) = a := by
  simp only [slots, ite_self]
  cases a with
  | mk tmps defers =>
    congr 1
    apply Array.ext'
    apply List.ext_getElem?
    intro k
    by_cases hk : k < tmps.size
    · simp [hk]
    · simp [hk]

theorem wpAny_slots {pre : List Tmp} {V : Nat → Value → World → Prop} {R : World → World → Prop} {a : Act} {w₀ : World} {sl : (Nat → Value) → Act} (needs : List (List Tmp))
    (hRt : ∀ u v w, R u v → R v w → R u w) (hV : ∀ t v w w', V t v w → R w w' → V t v w')
    (hn : needsOK ops pre ops.toList needs = true) (hp : pre.all (fun t => !(dstsOf ops).contains t) = true) (hd : dagOK ops 0 ops.toList = true) (hsl : ∀ τ, slots ops a τ = sl τ)
    (hstep : AllZip (StepJ P ops Q V R w₀ a sl) ops.toList needs)
    (hend : ∀ τ w, R w₀ w → (∀ t ∈ dstsOf ops, V t (τ t) w) → Q .normal (sl τ) w) :
    ∀ (fuel : Nat) (listed : Array Bool) (τ : Nat → Value) (w : World), open' ops.size listed ≤ fuel → listed.size = ops.size → R w₀ w →
      (∀ t, t ∉ dstsOf ops → τ t = a.tmps.getD t undef) → (∀ t ∈ pre, V t (τ t) w) →
      (∀ i o d, ops[i]? = some o → listed.getD i true = true → o.dst = some d → V d (τ d) w) →
      wpAny P .any ops Q fuel listed (sl τ) w := by
  intro fuel
  have hdone : ∀ (listed : Array Bool) (τ : Nat → Value) (w : World), listed.size = ops.size → R w₀ w →
      (∀ i o d, ops[i]? = some o → listed.getD i true = true → o.dst = some d → V d (τ d) w) → Region.ready .any ops listed = [] → Q .normal (sl τ) w := by
    intro listed τ w hsz hR hv hr
    have hall : ∀ n i, i < n → listed.getD i true = true := by
      intro n
      induction n with
      | zero => intro i hi; omega
      | succ n ih =>
        intro i hi
        by_cases hin : i < n
        · exact ih i hin
        · have : i = n := by omega
          subst this
          cases hl : listed.getD i true with
          | true => rfl
          | false =>
            exfalso
            have hlt : i < listed.size := by
              rcases Nat.lt_or_ge i listed.size with h' | h'
              · exact h'
              · simp [Array.getElem?_eq_none h'] at hl
            have ho : ∃ o, ops[i]? = some o := ⟨ops[i]'(by omega), by simp⟩
            obtain ⟨o, ho⟩ := ho
            have : i ∈ Region.ready .any ops listed := by
              rw [mem_ready]
              refine ⟨hl, o, ho, fun e he hb => ?_⟩
              have h1 := dag_get ops.toList 0 i o hd (by simpa using ho) e he hb
              have h2 := ih e.on (by omega)
              have h3 : e.on < listed.size := by omega
              simpa [h3] using h2
            rw [hr] at this
            simp at this
    refine hend τ w hR fun t ht => ?_
    obtain ⟨o, ho, hot⟩ := List.mem_filterMap.1 ht
    obtain ⟨i, hi⟩ := List.mem_iff_getElem?.1 ho
    exact hv i o t (by simpa using hi) (hall (i + 1) i (by omega)) hot
  induction fuel with
  | zero =>
    intro listed τ w hf hsz hR hfix hpre hv
    have hr : Region.ready .any ops listed = [] := by
      apply List.eq_nil_iff_forall_not_mem.2
      intro i hi
      rw [mem_ready] at hi
      have hlt : i < ops.size := by obtain ⟨_, o, ho, _⟩ := hi; exact (Array.getElem?_eq_some_iff.1 ho).1
      have := open_set hlt hi.1
      omega
    exact ⟨hr, hdone listed τ w hsz hR hv hr⟩
  | succ fuel ih =>
    intro listed τ w hf hsz hR hfix hpre hv
    refine ⟨hdone listed τ w hsz hR hv, fun i hi => ?_⟩
    rw [mem_ready] at hi
    obtain ⟨hl, o, ho, hafter⟩ := hi
    have hlt : i < ops.size := (Array.getElem?_eq_some_iff.1 ho).1
    obtain ⟨ts, hF, hts⟩ := zip_get (ops := ops) ops.toList needs i o hstep hn (by simpa using ho)
    refine wpOp_step ho fun K hK => ?_
    refine hF τ w hR hfix (allV_of ts fun t ht => ?_) K (fun v w' hR' hv' => hK _ _ ?_)
    · simp only [needOK, List.all_eq_true] at hts
      have hts' := hts t ht
      rw [Bool.or_eq_true] at hts'
      rcases hts' with hts' | hts'
      · exact hpre t (by simpa using hts')
      obtain ⟨e, he, hb⟩ := Array.any_eq_true'.1 hts'
      simp only [Bool.and_eq_true, beq_iff_eq] at hb
      have h1 := hafter e he hb.1
      obtain ⟨o', ho', hd'⟩ := Option.bind_eq_some_iff.1 hb.2
      refine hv e.on o' t ho' ?_ hd'
      have h3 : e.on < listed.size := by rw [hsz]; exact (Array.getElem?_eq_some_iff.1 ho').1
      simpa [h3] using h1
    · have hf' : open' ops.size (listed.setIfInBounds i true) ≤ fuel := by
        have := open_set hlt hl
        omega
      cases hdst : o.dst with
      | none =>
        simp only [Act.put]
        refine ih _ τ w' hf' (by simpa using hsz) (hRt _ _ _ hR hR') hfix (fun t ht => hV _ _ _ _ (hpre t ht) hR') fun j o' d hj hlj hjd => ?_
        by_cases hij : i = j
        · subst hij
          rw [ho] at hj; cases hj
          rw [hdst] at hjd; cases hjd
        · rw [getD_set_ne true hij] at hlj
          exact hV _ _ _ _ (hv j o' d hj hlj hjd) hR'
      | some d =>
        simp only [hdst] at hv'
        have hmem : d ∈ dstsOf ops := List.mem_filterMap.2 ⟨o, by have := List.mem_of_getElem? (l := ops.toList) (i := i) (a := o) (by simpa using ho); exact this, hdst⟩
        rw [← hsl, slots_put hmem, hsl]
        have hnp : ∀ t ∈ pre, t ≠ d := fun t ht h => by
          subst h
          have := List.all_eq_true.1 hp t ht
          simp [hmem] at this
        refine ih _ _ w' hf' (by simpa using hsz) (hRt _ _ _ hR hR') (fun t ht => by
          have : t ≠ d := fun h => ht (h ▸ hmem)
          simpa [this] using hfix t ht) (fun t ht => by simpa [hnp t ht] using hV _ _ _ _ (hpre t ht) hR') fun j o' d' hj hlj hjd => ?_
        by_cases hdd : d' = d
        · subst hdd
          simpa using hv'
        · simp only [hdd, if_false]
          have hij : i ≠ j := fun h => by
            subst h
            rw [ho] at hj; cases hj
            rw [hdst] at hjd; cases hjd; exact hdd rfl
          rw [getD_set_ne true hij] at hlj
          exact hV _ _ _ _ (hv j o' d' hj hlj hjd) hR'

theorem wp_region_slots {id : Nat} {a : Act} {w : World} (V : Nat → Value → World → Prop) (R : World → World → Prop) (sl : (Nat → Value) → Act) (needs : List (List Tmp)) (pre : List Tmp)
    (hm : P.follows .mixedOrders = true) (hsl : ∀ τ, slots ops a τ = sl τ)
    (hn : needsOK ops pre ops.toList needs = true) (hp : pre.all (fun t => !(dstsOf ops).contains t) = true) (hd : dagOK ops 0 ops.toList = true)
    (hRr : ∀ w, R w w) (hRt : ∀ u v w, R u v → R v w → R u w) (hV : ∀ t v w w', V t v w → R w w' → V t v w')
    (hpre : ∀ t ∈ pre, V t (a.tmps.getD t undef) w.drew)
    (hstep : AllZip (StepJ P ops Q V R w.drew a sl) ops.toList needs)
    (hend : ∀ τ w', R w.drew w' → (∀ t ∈ dstsOf ops, V t (τ t) w') → Q .normal (sl τ) w') : (Code.region id ops true).wp P Q a w := by
  refine wp_region_any hm ?_
  have h := wpAny_slots needs hRt hV hn hp hd hsl hstep hend ops.size (Array.replicate ops.size false) (fun t => a.tmps.getD t undef) w.drew
    (by unfold open'; exact Nat.le_trans List.countP_le_length (by simp)) (by simp) (hRr _) (fun _ _ => rfl) hpre (fun i o d hi hl _ => by
      have := (Array.getElem?_eq_some_iff.1 hi).1
      simp [this] at hl)
  rw [← hsl, slots_self] at h
  exact h

/-- What the slots that an operation looks at hold. -/
def AllB (V : Nat → Value → World → Prop) (b : Act) (w : World) : List Nat → Prop
  | [] => True
  | t :: ts => (∃ v, b.tmps[t]? = some v ∧ V t v w) ∧ AllB V b w ts
/-- One operation, where every guard is met: the frame is a letter. -/
def StepB (P : Program) (Q : Exit → Act → World → Prop) (V : Nat → Value → World → Prop) (R : World → World → Prop) (w₀ : World) (o : Oper) (ts : List Tmp) : Prop :=
  ∀ (b : Act) (w : World), R w₀ w → AllB V b w ts → ∀ K : Act → World → Prop,
    Shut (∀ v w', R w w' → (match o.dst with | some d => V d v w' | none => True) → K (b.put o.dst v) w') → o.wp P b w K Q
def guardOK (ops : Array Oper) (gt : List Tmp) (o : Oper) (ts : List Tmp) : Bool :=
  match o.guard with
  | none => true
  | some (g, b) => b && match ops[g]?.bind (·.dst) with
    | some d => gt.contains d && ts.contains d
    | none => false
def guardsOK (ops : Array Oper) (gt : List Tmp) (n : Nat) : List Oper → List (List Tmp) → Bool
  | [], _ => true
  | o :: os, l :: ls => guardOK ops gt o l && l.all (fun t => decide (t < n)) && guardsOK ops gt n os ls
  | _ :: _, [] => false
theorem allV_mem {V : Nat → Value → World → Prop} {τ : Nat → Value} {w : World} : ∀ {ts : List Nat}, AllV V τ w ts → ∀ t ∈ ts, V t (τ t) w
  | [], _, t, ht => by simp at ht
  | u :: ts, h, t, ht => by
    rcases List.mem_cons.1 ht with rfl | ht
    · exact h.1
    · exact allV_mem h.2 t ht
theorem allB_of {V : Nat → Value → World → Prop} {b : Act} {τ : Nat → Value} {w : World} : ∀ {ts : List Nat}, AllV V τ w ts → (∀ t ∈ ts, b.tmps[t]? = some (τ t)) → AllB V b w ts
  | [], _, _ => trivial
  | t :: ts, h, hb => ⟨⟨τ t, hb t (by simp), h.1⟩, allB_of h.2 fun u hu => hb u (by simp [hu])⟩
theorem stepJ_of {V : Nat → Value → World → Prop} {R : World → World → Prop} {w₀ : World} {a : Act} {sl : (Nat → Value) → Act} {gt : List Tmp} (hsl : ∀ τ, slots ops a τ = sl τ)
    (hgt : ∀ t ∈ gt, ∀ v w, V t v w → v = .bool true) {o : Oper} {ts : List Tmp} (hg : guardOK ops gt o ts = true) (hsz : ∀ t ∈ ts, t < a.tmps.size) (h : StepB P Q V R w₀ o ts) : StepJ P ops Q V R w₀ a sl o ts := by
  intro τ w hR hfix hd K hK
  have hget : ∀ t ∈ ts, (sl τ).tmps[t]? = some (τ t) := fun t ht => by
    rw [← hsl]
    have := hsz t ht
    by_cases hdd : t ∈ dstsOf ops
    · simp [slots, this, hdd]
    · have h2 := hfix t hdd
      have h3 : (dstsOf ops).contains t = false := by simpa using hdd
      simp [slots, this, h3, h2, -List.contains_eq_mem]
  have hw : Region.wanted o (yielded ops (sl τ).tmps) = true := by
    unfold Region.wanted
    unfold guardOK at hg
    split
    · rfl
    · rename_i g b hgd
      simp only [hgd, Bool.and_eq_true] at hg
      obtain ⟨hb, hg⟩ := hg
      subst hb
      split at hg
      · rename_i d hdd
        simp only [Bool.and_eq_true, List.contains_iff_mem] at hg
        obtain ⟨h1, h2⟩ := hg
        have h5 := hgt d h1 _ _ (allV_mem hd d h2)
        have h6 := hget d h2
        unfold yielded
        rw [hdd]
        simp [h6, h5]
      · simp at hg
  rw [if_pos hw]
  exact h _ w hR (allB_of hd hget) K hK
theorem zip_stepJ {V : Nat → Value → World → Prop} {R : World → World → Prop} {w₀ : World} {a : Act} {sl : (Nat → Value) → Act} {gt : List Tmp} (hsl : ∀ τ, slots ops a τ = sl τ)
    (hgt : ∀ t ∈ gt, ∀ v w, V t v w → v = .bool true) : ∀ (os : List Oper) (ls : List (List Tmp)), guardsOK ops gt a.tmps.size os ls = true → AllZip (StepB P Q V R w₀) os ls → AllZip (StepJ P ops Q V R w₀ a sl) os ls
  | [], _, _, _ => trivial
  | o :: os, l :: ls, hg, h => by
    simp only [guardsOK, Bool.and_eq_true, List.all_eq_true, decide_eq_true_eq] at hg
    exact ⟨stepJ_of hsl hgt hg.1.1 hg.1.2 h.1, zip_stepJ hsl hgt os ls hg.2 h.2⟩
  | _ :: _, [], _, h => h.elim

theorem wp_region_true {id : Nat} {a : Act} {w : World} (V : Nat → Value → World → Prop) (R : World → World → Prop) (sl : (Nat → Value) → Act) (needs : List (List Tmp)) (pre gt : List Tmp)
    (hm : P.follows .mixedOrders = true) (hsl : ∀ τ, slots ops a τ = sl τ)
    (hn : needsOK ops pre ops.toList needs = true) (hp : pre.all (fun t => !(dstsOf ops).contains t) = true) (hd : dagOK ops 0 ops.toList = true) (hg : guardsOK ops gt a.tmps.size ops.toList needs = true)
    (hgt : ∀ t ∈ gt, ∀ v w, V t v w → v = .bool true)
    (hRr : ∀ w, R w w) (hRt : ∀ u v w, R u v → R v w → R u w) (hV : ∀ t v w w', V t v w → R w w' → V t v w')
    (hpre : ∀ t ∈ pre, V t (a.tmps.getD t undef) w.drew)
    (hstep : AllZip (StepB P Q V R w.drew) ops.toList needs)
    (hend : ∀ τ w', R w.drew w' → (∀ t ∈ dstsOf ops, V t (τ t) w') → Q .normal (sl τ) w') : (Code.region id ops true).wp P Q a w :=
  wp_region_slots V R sl needs pre hm hsl hn hp hd hRr hRt hV hpre (zip_stepJ hsl hgt _ _ hg hstep) hend
end
end Go.Proofs.Ytajggbekljohpaa
