/- A region whose order is open, each of whose operations yields one value in whatever order: it may be walked operation by operation. -/
import Derived.Test.YtakldmbbmefnbaaBase
import Derived.Orders
namespace Go.Proofs.Ytakldmbbmefnbaa
open Go.RowKit

/-- What an operation leaves in its slot. -/
def valOf (fin : Act) (o : Oper) : Value := match o.dst with | some d => fin.tmps.getD d undef | none => undef

/-- Nothing is looked at that another operation writes, but behind it. -/
def depsOk (ops : Array Oper) : Bool :=
  (List.range ops.size).all fun i => match ops[i]? with
    | none => true
    | some o => (o.after.all fun e => !Region.binds .any e || decide (e.on < i)) && (match o.op with | .select .. => false | _ => true) &&
      ((o.looksAt ops).all fun t => (List.range ops.size).all fun j => match ops[j]? with
        | none => true
        | some o' => (o'.dst != some t) || (o.after.any fun e => e.on == j && Region.binds .any e))

/-- No slot is written twice. -/
def dstsOk (ops : Array Oper) : Bool :=
  (List.range ops.size).all fun i => (List.range ops.size).all fun j => i == j || (match ops[i]?, ops[j]? with
    | some o, some o' => (match o.dst with | some d => o'.dst != some d | none => true)
    | _, _ => true)

def stepOk (P : Program) (ops : Array Oper) (Q : Exit → Act → World → Prop) (S : World → Prop) (fin : Act) (o : Oper) (w : World) : Prop :=
  if Region.wanted o (yielded ops fin.tmps) then ∀ (a : Act) (K : Act → World → Prop), (∀ w', S w' → K (a.put o.dst (valOf fin o)) w') → o.upon P a K Q ((execOp fin.eval o).run P w)
  else valOf fin o = undef

/-- The frame when some operations have been carried out. -/
structure Mid (ops : Array Oper) (a0 fin : Act) (listed : Array Bool) (a : Act) : Prop where
  defers : a.defers = a0.defers
  size : a.tmps.size = fin.tmps.size
  done : ∀ (j : Nat) (o : Oper) (d : Tmp), ops[j]? = some o → o.dst = some d → listed.getD j false = true → a.tmps[d]? = fin.tmps[d]?
  rest : ∀ t : Tmp, (∀ (j : Nat) (o : Oper), ops[j]? = some o → listed.getD j false = true → o.dst ≠ some t) → a.tmps[t]? = a0.tmps[t]?

section
variable {P : Program} {ops : Array Oper} {Q : Exit → Act → World → Prop} {S : World → Prop} {a0 fin : Act}

theorem Mid.start (hs : a0.tmps.size = fin.tmps.size) : Mid ops a0 fin (Array.replicate ops.size false) a0 :=
  ⟨rfl, hs, fun j o d ho hd hl => by
    have : (Array.replicate ops.size false).getD j false = false := by
      by_cases h : j < ops.size <;> simp [h]
    rw [this] at hl; exact absurd hl (by simp), fun _ _ => rfl⟩

theorem Mid.put {listed : Array Bool} {a : Act} (h : Mid ops a0 fin listed a) {i : Nat} {o : Oper} (hi : ops[i]? = some o) (hlt : i < listed.size) (hd : dstsOk ops = true) :
    Mid ops a0 fin (listed.setIfInBounds i true) (a.put o.dst (valOf fin o)) := by
  have hin : i < ops.size := (Array.getElem?_eq_some_iff.1 hi).1
  have hdst : ∀ (j : Nat) (o' : Oper) (d : Tmp), ops[j]? = some o' → o.dst = some d → o'.dst = some d → j = i := by
    intro j o' d hj hod hod'
    have hjn : j < ops.size := (Array.getElem?_eq_some_iff.1 hj).1
    unfold dstsOk at hd
    have h1 := List.all_eq_true.1 hd i (List.mem_range.2 hin)
    have h2 := List.all_eq_true.1 h1 j (List.mem_range.2 hjn)
    simp only [hi, hj, hod, hod', bne_self_eq_false, Bool.or_false, beq_iff_eq] at h2
    exact h2.symm
  have hget : ∀ j, (listed.setIfInBounds i true).getD j false = if j = i then true else listed.getD j false := by
    intro j
    by_cases e : j = i
    · subst e; simp [hlt]
    · simp only [e, if_false, Array.getD_eq_getD_getElem?]
      rw [Array.getElem?_setIfInBounds_ne (fun h => e h.symm)]
  refine ⟨?_, ?_, ?_, ?_⟩
  · cases ho : o.dst <;> simp [Act.put, h.defers]
  · cases ho : o.dst <;> simp [Act.put, h.size]
  · intro j o' d hj hod hl
    rw [hget] at hl
    by_cases e : j = i
    · subst e
      rw [hi] at hj
      cases hj
      simp only [valOf, hod, Act.put]
      by_cases hb : d < fin.tmps.size
      · rw [Array.getElem?_setIfInBounds_self_of_lt (by rw [h.size]; exact hb)]
        simp [hb]
      · rw [Array.getElem?_eq_none (by simp only [Array.size_setIfInBounds, h.size]; exact Nat.le_of_not_lt hb), Array.getElem?_eq_none (Nat.le_of_not_lt hb)]
    · rw [if_neg e] at hl
      have := h.done j o' d hj hod hl
      cases hoo : o.dst with
      | none => simpa [Act.put] using this
      | some d' =>
        have hne : d' ≠ d := fun hh => e (hdst j o' d hj (hh ▸ hoo) hod)
        simp only [Act.put]
        rw [Array.getElem?_setIfInBounds_ne hne]
        exact this
  · intro t ht
    have h1 : o.dst ≠ some t := ht i o hi (by rw [hget]; simp)
    have h2 := h.rest t (fun j o' hj hl => ht j o' hj (by rw [hget]; split <;> simp_all))
    cases hoo : o.dst with
    | none => simpa [Act.put] using h2
    | some d' =>
      have hne : d' ≠ t := fun hh => h1 (hh ▸ hoo)
      simp only [Act.put]
      rw [Array.getElem?_setIfInBounds_ne hne]
      exact h2

theorem Mid.look {listed : Array Bool} {a : Act} (h : Mid ops a0 fin listed a) (hall : ∀ t : Tmp, (∀ (j : Nat) (o : Oper), ops[j]? = some o → o.dst ≠ some t) → fin.tmps[t]? = a0.tmps[t]?)
    {i : Nat} {o : Oper} (hi : ops[i]? = some o) (hd : depsOk ops = true) (hr : i ∈ Region.ready .any ops listed) {t : Tmp} (ht : t ∈ o.looksAt ops) : a.tmps[t]? = fin.tmps[t]? := by
  have hin : i < ops.size := (Array.getElem?_eq_some_iff.1 hi).1
  by_cases hw : ∃ (j : Nat) (o' : Oper), ops[j]? = some o' ∧ o'.dst = some t
  · obtain ⟨j, o', hj, hod⟩ := hw
    have hjn : j < ops.size := (Array.getElem?_eq_some_iff.1 hj).1
    refine h.done j o' t hj hod ?_
    unfold depsOk at hd
    have h1 := List.all_eq_true.1 hd i (List.mem_range.2 hin)
    simp only [hi, Bool.and_eq_true] at h1
    have h2 := List.all_eq_true.1 h1.2 t ht
    have h3 := List.all_eq_true.1 h2 j (List.mem_range.2 hjn)
    simp only [hj, hod, bne_self_eq_false, Bool.false_or] at h3
    obtain ⟨e, he, heq⟩ := Array.any_eq_true'.1 h3
    simp only [Bool.and_eq_true, beq_iff_eq] at heq
    obtain ⟨he1, he2⟩ := heq
    simp only [Region.ready, List.mem_filter, hi, Option.map_some, Option.getD_some, Bool.and_eq_true] at hr
    have h5 := Array.all_eq_true'.1 hr.2.2 e he
    simp only [he2, Bool.not_true, Bool.false_or] at h5
    rw [he1] at h5
    exact h5
  · have hw' : ∀ (j : Nat) (o' : Oper), ops[j]? = some o' → o'.dst ≠ some t := fun j o' hj hod => hw ⟨j, o', hj, hod⟩
    rw [hall t hw']
    exact h.rest t (fun j o' hj _ => hw' j o' hj)

theorem step_at {listed : Array Bool} {a : Act} (h : Mid ops a0 fin listed a) (hall : ∀ t : Tmp, (∀ (j : Nat) (o : Oper), ops[j]? = some o → o.dst ≠ some t) → fin.tmps[t]? = a0.tmps[t]?)
    (hd : depsOk ops = true) {i : Nat} {o : Oper} (hi : ops[i]? = some o) (hr : i ∈ Region.ready .any ops listed) {w : World} (hs : stepOk P ops Q S fin o w) {K : Act → World → Prop} (hK : ∀ w', S w' → K (a.put o.dst (valOf fin o)) w') (hw : S w) :
    wpOp P ops Q i K a w := by
  have hin : i < ops.size := (Array.getElem?_eq_some_iff.1 hi).1
  have hlook : ∀ t ∈ o.looksAt ops, a.tmps[t]? = fin.tmps[t]? := fun t ht => h.look hall hi hd hr ht
  have hy : Region.wanted o (yielded ops a.tmps) = Region.wanted o (yielded ops fin.tmps) := by
    unfold Region.wanted
    cases hg : o.guard with
    | none => rfl
    | some g =>
      obtain ⟨j, want⟩ := g
      simp only [yielded]
      cases hj : (ops[j]?).bind (·.dst) with
      | none => rfl
      | some t =>
        have : t ∈ o.looksAt ops := by simp [Oper.looksAt, hg, hj]
        simp [hlook t this]
  have he : execOp a.eval o = execOp fin.eval o := by
    refine execOp_congr o ?_ ?_
    · intro cs b hc
      unfold depsOk at hd
      have h1 := List.all_eq_true.1 hd i (List.mem_range.2 hin)
      simp [hi, hc] at h1
    · intro x hx
      cases x with
      | tmp t =>
        have ht : t ∈ o.looksAt ops := by
          unfold Oper.looksAt
          refine List.mem_append.2 (.inl ?_)
          exact List.mem_filterMap.2 ⟨.tmp t, by simpa using hx, rfl⟩
        have := hlook t ht
        simp only [Act.eval, Array.getD_eq_getD_getElem?, this]
      | _ => rfl
  unfold wpOp
  rw [hi]
  simp only [hy]
  unfold stepOk at hs
  by_cases hwt : Region.wanted o (yielded ops fin.tmps) = true
  · rw [if_pos hwt] at hs ⊢
    left
    unfold Oper.wp
    rw [he]
    exact hs a K hK
  · rw [if_neg hwt] at hs ⊢
    rw [← hs]
    exact hK w hw

theorem nodup_le : ∀ (n : Nat) (l : List Nat), l.Nodup → (∀ i ∈ l, i < n) → l.length ≤ n
  | 0, l, _, h => by
    cases l with
    | nil => simp
    | cons x xs => exact absurd (h x (by simp)) (by omega)
  | n + 1, l, hnd, h => by
    by_cases hm : n ∈ l
    · have h1 := nodup_le n (l.erase n) (hnd.erase n) (fun i hi => by
        have h2 := h i (List.mem_of_mem_erase hi)
        have h3 : i ≠ n := fun e => by subst e; exact (hnd.not_mem_erase) hi
        omega)
      rw [List.length_erase_of_mem hm] at h1
      omega
    · have h1 := nodup_le n l hnd (fun i hi => by
        have h2 := h i hi
        have h3 : i ≠ n := fun e => hm (e ▸ hi)
        omega)
      omega

theorem any_mono (hd : depsOk ops = true) (hdd : dstsOk ops = true) (hall : ∀ t : Tmp, (∀ (j : Nat) (o : Oper), ops[j]? = some o → o.dst ≠ some t) → fin.tmps[t]? = a0.tmps[t]?) (hdf : fin.defers = a0.defers)
    (hstep : ∀ (i : Nat) (o : Oper), ops[i]? = some o → ∀ w, S w → stepOk P ops Q S fin o w) (hend : ∀ w, S w → Q .normal fin w) :
    ∀ (fuel : Nat) (listed : Array Bool) (a : Act) (w : World), listed.size = ops.size → (∀ l : List Nat, l.Nodup → (∀ i ∈ l, i < ops.size ∧ listed.getD i true = false) → l.length ≤ fuel) → Mid ops a0 fin listed a → S w → wpAny P .any ops Q fuel listed a w := by
  have full : ∀ (listed : Array Bool) (a : Act), listed.size = ops.size → (∀ i, i < ops.size → listed.getD i true = true) → Mid ops a0 fin listed a → a = fin := by
    intro listed a hs hl hm
    have : a.tmps = fin.tmps := by
      apply Array.ext_getElem?
      intro t
      by_cases hw : ∃ (j : Nat) (o' : Oper), ops[j]? = some o' ∧ o'.dst = some t
      · obtain ⟨j, o', hj, hod⟩ := hw
        have hjn : j < ops.size := (Array.getElem?_eq_some_iff.1 hj).1
        refine hm.done j o' t hj hod ?_
        have := hl j hjn
        have hjl : j < listed.size := by omega
        simpa [Array.getD, hjl] using this
      · have hw' : ∀ (j : Nat) (o' : Oper), ops[j]? = some o' → o'.dst ≠ some t := fun j o' hj hod => hw ⟨j, o', hj, hod⟩
        rw [hall t hw']
        exact hm.rest t (fun j o' hj _ => hw' j o' hj)
    cases a; cases fin
    simp only at this hdf
    have h2 := hm.defers
    simp only at h2
    rw [this, h2, hdf]
  have noReady : ∀ (listed : Array Bool), listed.size = ops.size → Region.ready .any ops listed = [] → ∀ i, i < ops.size → listed.getD i true = true := by
    intro listed hs hr i
    induction i using Nat.strongRecOn with
    | _ i ih =>
      intro hi
      cases hl : listed.getD i true with
      | true => rfl
      | false =>
        exfalso
        have ho : ops[i]? = some ops[i] := Array.getElem?_eq_getElem hi
        have : i ∈ Region.ready .any ops listed := by
          simp only [Region.ready, List.mem_filter, List.mem_range, hi, hl, ho, Option.map_some, Option.getD_some, Bool.not_false, Bool.true_and, true_and]
          refine Array.all_eq_true'.2 fun e he => ?_
          unfold depsOk at hd
          have h1 := List.all_eq_true.1 hd i (List.mem_range.2 hi)
          simp only [ho, Bool.and_eq_true] at h1
          have h2 := Array.all_eq_true'.1 h1.1.1 e he
          simp only [Bool.or_eq_true, decide_eq_true_eq] at h2 ⊢
          rcases h2 with h2 | h2
          · exact .inl h2
          · right
            have h3 := ih e.on h2 (by omega)
            have hel : e.on < listed.size := by omega
            simpa [Array.getD, hel] using h3
        rw [hr] at this
        cases this
  intro fuel
  induction fuel with
  | zero =>
    intro listed a w hs hf hm hw
    have hl : ∀ i, i < ops.size → listed.getD i true = true := by
      intro i hi
      cases h : listed.getD i true with
      | true => rfl
      | false =>
        have := hf [i] (by simp) (fun j hj => by rw [List.mem_singleton.1 hj]; exact ⟨hi, h⟩)
        simp at this
    have ha := full listed a hs hl hm
    refine ⟨?_, ha ▸ hend w hw⟩
    unfold Region.ready
    rw [List.filter_eq_nil_iff]
    intro i hi
    simp [hl i (List.mem_range.1 hi)]
  | succ fuel ih =>
    intro listed a w hs hf hm hw
    refine ⟨fun hr => ?_, fun i hi => ?_⟩
    · have ha := full listed a hs (noReady listed hs hr) hm
      exact ha ▸ hend w hw
    · have him := hi
      simp only [Region.ready, List.mem_filter, List.mem_range, Bool.and_eq_true, Bool.not_eq_true'] at him
      obtain ⟨hlt, hun, _⟩ := him
      have ho : ops[i]? = some ops[i] := Array.getElem?_eq_getElem hlt
      have hil : i < listed.size := by omega
      refine step_at hm hall hd ho hi (hstep i _ ho w hw) (fun w' hw' => ?_) hw
      refine ih _ _ w' (by simpa using hs) ?_ (hm.put ho hil hdd) hw'
      intro l hnd hl
      have hni : i ∉ l := by
        intro hmem
        have := (hl i hmem).2
        simp [Array.getD, hil] at this
      have := hf (i :: l) (List.nodup_cons.2 ⟨hni, hnd⟩) (by
        intro j hj
        rcases List.mem_cons.1 hj with rfl | hj
        · exact ⟨hlt, hun⟩
        · obtain ⟨h1, h2⟩ := hl j hj
          refine ⟨h1, ?_⟩
          have hne : i ≠ j := fun e => hni (e ▸ hj)
          simpa [Array.getD_eq_getD_getElem?, Array.getElem?_setIfInBounds_ne hne] using h2)
      simp at this
      omega

/-- **A region whose order is open, walked operation by operation**: in every world that meets S each operation yields its value in the last frame and leaves a world that meets S. -/
theorem wp_region_mono {id : Nat} {w : World} (hm : P.follows .mixedOrders = true) (S : World → Prop) (fin : Act) (hd : depsOk ops = true) (hdd : dstsOk ops = true)
    (hsz : a0.tmps.size = fin.tmps.size) (hdf : fin.defers = a0.defers) (hall : ∀ t : Tmp, t < fin.tmps.size → (ops.toList.any fun o => o.dst == some t) = false → fin.tmps[t]? = a0.tmps[t]?)
    (h0 : S w.drew) (hstep : ∀ (i : Nat) (o : Oper), ops[i]? = some o → ∀ w, S w → stepOk P ops Q S fin o w) (hend : ∀ w, S w → Q .normal fin w) :
    (Code.region id ops true).wp P Q a0 w := by
  have hall' : ∀ t : Tmp, (∀ (j : Nat) (o : Oper), ops[j]? = some o → o.dst ≠ some t) → fin.tmps[t]? = a0.tmps[t]? := by
    intro t ht
    by_cases hb : t < fin.tmps.size
    · refine hall t hb ?_
      rw [List.any_eq_false]
      intro o ho
      obtain ⟨j, hj, rfl⟩ := List.getElem_of_mem ho
      have := ht j ops[j] (Array.getElem?_eq_getElem (by simpa using hj))
      simpa using this
    · rw [Array.getElem?_eq_none (Nat.le_of_not_lt hb), Array.getElem?_eq_none (hsz ▸ Nat.le_of_not_lt hb)]
  refine wp_region_any hm (any_mono hd hdd hall' hdf hstep hend ops.size _ a0 _ (by simp) ?_ (Mid.start hsz) h0)
  intro l hnd hl
  exact nodup_le ops.size l hnd (fun i hi => (hl i hi).1)

theorem stepOk_yes {o : Oper} {w : World} (h : Region.wanted o (yielded ops fin.tmps) = true) (hs : ∀ (a : Act) (K : Act → World → Prop), (∀ w', S w' → K (a.put o.dst (valOf fin o)) w') → o.upon P a K Q ((execOp fin.eval o).run P w)) : stepOk P ops Q S fin o w := by
  unfold stepOk; rw [if_pos h]; exact hs
theorem stepOk_no {o : Oper} {w : World} (h : Region.wanted o (yielded ops fin.tmps) = false) (hv : valOf fin o = undef) : stepOk P ops Q S fin o w := by
  unfold stepOk; rw [if_neg (by rw [h]; decide)]; exact hv

/-- Each of the operations yields its value. -/
def AllStep (P : Program) (ops : Array Oper) (Q : Exit → Act → World → Prop) (S : World → Prop) (fin : Act) (w : World) : List Oper → Prop
  | [] => True
  | o :: r => stepOk P ops Q S fin o w ∧ AllStep P ops Q S fin w r

theorem allStep_mem {w : World} : ∀ (l : List Oper), AllStep P ops Q S fin w l → ∀ o ∈ l, stepOk P ops Q S fin o w
  | [], _, o, h => by cases h
  | o' :: r, h, o, hm => by
    rcases List.mem_cons.1 hm with rfl | hm
    · exact h.1
    · exact allStep_mem r h.2 o hm

def putAll (fin : Act) : List Oper → Array Value → Array Value
  | [], tm => tm
  | o :: r, tm => putAll fin r (match o.dst with | some d => tm.setIfInBounds d (fin.tmps.getD d undef) | none => tm)

theorem putAll_size : ∀ (l : List Oper) (tm : Array Value), (putAll fin l tm).size = tm.size
  | [], _ => rfl
  | o :: r, tm => by
    rw [putAll, putAll_size r]
    cases o.dst <;> simp

theorem putAll_other (t : Tmp) : ∀ (l : List Oper) (tm : Array Value), (l.any fun o => o.dst == some t) = false → (putAll fin l tm)[t]? = tm[t]?
  | [], _, _ => rfl
  | o :: r, tm, h => by
    simp only [List.any_cons, Bool.or_eq_false_iff] at h
    rw [putAll, putAll_other t r _ h.2]
    cases hd : o.dst with
    | none => rfl
    | some d =>
      have hne : d ≠ t := fun e => by subst e; simp [hd] at h
      simp only []
      rw [Array.getElem?_setIfInBounds_ne hne]

theorem wp_region_all {id : Nat} {w : World} (hm : P.follows .mixedOrders = true) (S : World → Prop) (fin : Act) (hd : depsOk ops = true) (hdd : dstsOk ops = true)
    (hfin : fin.tmps = putAll fin ops.toList a0.tmps) (hdf : fin.defers = a0.defers)
    (h0 : S w.drew) (hstep : ∀ w, S w → AllStep P ops Q S fin w ops.toList) (hend : ∀ w, S w → Q .normal fin w) :
    (Code.region id ops true).wp P Q a0 w := by
  refine wp_region_mono hm S fin hd hdd ?_ hdf ?_ h0 (fun _ o ho w hS => allStep_mem _ (hstep w hS) o (Array.mem_toList_iff.2 (Array.mem_of_getElem? ho))) hend
  · have := congrArg Array.size hfin
    rw [putAll_size] at this
    exact this.symm
  · intro t _ ht
    have h := putAll_other (fin := fin) t _ a0.tmps ht
    rw [← hfin] at h
    exact h
end
end Go.Proofs.Ytakldmbbmefnbaa
