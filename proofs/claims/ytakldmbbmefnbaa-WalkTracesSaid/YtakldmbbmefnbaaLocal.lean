/- A region whose order is open, each of whose operations keeps what the others have come to: what each yields is told by a relation of its own. -/
import Derived.Test.YtakldmbbmefnbaaRegion
namespace Go.Proofs.Ytakldmbbmefnbaa
open Go.RowKit

/-- The slots, when operation i has yielded f i. -/
def putF (f : Nat → Value) : Nat → List Oper → Array Value → Array Value
  | _, [], tm => tm
  | i, o :: r, tm => putF f (i + 1) r (match o.dst with | some d => tm.setIfInBounds d (f i) | none => tm)

/-- No operation hangs on a test. -/
def noGuard (ops : Array Oper) : Bool := ops.toList.all fun o => o.guard.isNone

/-- What is known of the operations that one waits for. -/
def AfterAll (Pv : Nat → Value → World → Prop) (f : Nat → Value) (w : World) : List Edge → Prop
  | [] => True
  | x :: r => (Region.binds .any x = true → Pv x.on (f x.on) w) ∧ AfterAll Pv f w r

def updF (f : Nat → Value) (i : Nat) (v : Value) : Nat → Value := fun j => if j = i then v else f j

section
variable {P : Program} {ops : Array Oper} {Q : Exit → Act → World → Prop} {a0 : Act} {f : Nat → Value}

theorem putF_size : ∀ (l : List Oper) (k : Nat) (tm : Array Value), (putF f k l tm).size = tm.size
  | [], _, _ => rfl
  | o :: r, k, tm => by
    rw [putF, putF_size r]
    cases o.dst <;> simp
theorem putF_other (t : Tmp) : ∀ (l : List Oper) (k : Nat) (tm : Array Value), (∀ (j : Nat) (o : Oper), l[j]? = some o → o.dst ≠ some t) → (putF f k l tm)[t]? = tm[t]?
  | [], _, _, _ => rfl
  | o :: r, k, tm, h => by
    rw [putF, putF_other t r _ _ (fun j o' ho => h (j + 1) o' (by simpa using ho))]
    have h0 := h 0 o rfl
    cases hd : o.dst with
    | none => rfl
    | some d =>
      have hne : d ≠ t := fun e => h0 (by rw [hd, e])
      simp only []
      rw [Array.getElem?_setIfInBounds_ne hne]
theorem putF_at (d : Tmp) : ∀ (l : List Oper) (k : Nat) (tm : Array Value) (j : Nat) (o : Oper), l[j]? = some o → o.dst = some d → (∀ (j' : Nat) (o' : Oper), l[j']? = some o' → o'.dst = some d → j' = j) → d < tm.size → (putF f k l tm)[d]? = some (f (k + j))
  | [], _, _, _, _, h, _, _, _ => by simp at h
  | o :: r, k, tm, 0, o', h, hd, hu, hlt => by
    simp at h; subst h
    rw [putF, putF_other d r _ _ (fun j o' ho hdo => by have := hu (j + 1) o' (by simpa using ho) hdo; omega)]
    simp only [hd]
    rw [Array.getElem?_setIfInBounds_self_of_lt hlt]
    rfl
  | o :: r, k, tm, j + 1, o', h, hd, hu, hlt => by
    simp at h
    rw [putF, putF_at d r (k + 1) _ j o' h hd (fun j' o'' ho hdo => by have := hu (j' + 1) o'' (by simpa using ho) hdo; omega) (by cases o.dst <;> simpa using hlt)]
    congr 2
    omega

theorem dst_one (hd : dstsOk ops = true) {i j : Nat} {o o' : Oper} {d : Tmp} (hi : ops[i]? = some o) (hj : ops[j]? = some o') (h1 : o.dst = some d) (h2 : o'.dst = some d) : j = i := by
  have hin : i < ops.size := (Array.getElem?_eq_some_iff.1 hi).1
  have hjn : j < ops.size := (Array.getElem?_eq_some_iff.1 hj).1
  unfold dstsOk at hd
  have h3 := List.all_eq_true.1 hd i (List.mem_range.2 hin)
  have h4 := List.all_eq_true.1 h3 j (List.mem_range.2 hjn)
  simp only [hi, hj, h1, h2, bne_self_eq_false, Bool.or_false, beq_iff_eq] at h4
  exact h4.symm

/-- The frame when some operations have been carried out. -/
structure MidF (ops : Array Oper) (a0 : Act) (f : Nat → Value) (listed : Array Bool) (a : Act) : Prop where
  defers : a.defers = a0.defers
  size : a.tmps.size = a0.tmps.size
  done : ∀ (j : Nat) (o : Oper) (d : Tmp), ops[j]? = some o → o.dst = some d → listed.getD j false = true → d < a0.tmps.size → a.tmps[d]? = some (f j)
  rest : ∀ t : Tmp, (∀ (j : Nat) (o : Oper), ops[j]? = some o → listed.getD j false = true → o.dst ≠ some t) → a.tmps[t]? = a0.tmps[t]?

theorem set_get {listed : Array Bool} {i : Nat} (hi : i < listed.size) (j : Nat) (d : Bool) : (listed.setIfInBounds i true).getD j d = if j = i then true else listed.getD j d := by
  by_cases he : j = i
  · subst he; simp [hi]
  · simp only [he, if_false, Array.getD_eq_getD_getElem?]
    rw [Array.getElem?_setIfInBounds_ne (fun h => he h.symm)]

theorem MidF.start : MidF ops a0 f (Array.replicate ops.size false) a0 :=
  ⟨rfl, rfl, fun j o d ho hd hl => by
    have : (Array.replicate ops.size false).getD j false = false := by
      by_cases h : j < ops.size <;> simp [h]
    rw [this] at hl; exact absurd hl (by simp), fun _ _ => rfl⟩

theorem MidF.put {listed : Array Bool} {a : Act} (h : MidF ops a0 f listed a) {i : Nat} {o : Oper} (hi : ops[i]? = some o) (hlt : i < listed.size) (hd : dstsOk ops = true) (v : Value) :
    MidF ops a0 (updF f i v) (listed.setIfInBounds i true) (a.put o.dst v) := by
  refine ⟨?_, ?_, ?_, ?_⟩
  · cases ho : o.dst <;> simp [Act.put, h.defers]
  · cases ho : o.dst <;> simp [Act.put, h.size]
  · intro j o' d hj hod hl hb
    rw [set_get hlt] at hl
    by_cases e : j = i
    · subst e
      rw [hi] at hj
      cases hj
      simp only [hod, Act.put, updF, if_pos]
      rw [Array.getElem?_setIfInBounds_self_of_lt (by rw [h.size]; exact hb)]
    · rw [if_neg e] at hl
      have := h.done j o' d hj hod hl hb
      have hu : updF f i v j = f j := by unfold updF; rw [if_neg e]
      rw [hu]
      cases hoo : o.dst with
      | none => simpa [Act.put] using this
      | some d' =>
        have hne : d' ≠ d := fun hh => e (dst_one hd hi hj (hh ▸ hoo) hod)
        simp only [Act.put]
        rw [Array.getElem?_setIfInBounds_ne hne]
        exact this
  · intro t ht
    have h1 : o.dst ≠ some t := ht i o hi (by rw [set_get hlt]; simp)
    have h2 := h.rest t (fun j o' hj hl => ht j o' hj (by rw [set_get hlt]; split <;> simp_all))
    cases hoo : o.dst with
    | none => simpa [Act.put] using h2
    | some d' =>
      have hne : d' ≠ t := fun hh => h1 (hh ▸ hoo)
      simp only [Act.put]
      rw [Array.getElem?_setIfInBounds_ne hne]
      exact h2

theorem MidF.at {listed : Array Bool} {a fin : Act} (h : MidF ops a0 f listed a) (hd : dstsOk ops = true) (hfin : fin.tmps = putF f 0 ops.toList a0.tmps) (t : Tmp)
    (hw : (∀ (j : Nat) (o : Oper), ops[j]? = some o → o.dst ≠ some t) ∨ ∃ (j : Nat) (o : Oper), ops[j]? = some o ∧ o.dst = some t ∧ listed.getD j false = true) : a.tmps[t]? = fin.tmps[t]? := by
  rw [hfin]
  rcases hw with hw | ⟨j, o, hj, ho, hl⟩
  · rw [h.rest t (fun j o hj _ => hw j o hj), putF_other t _ _ _ (fun j o ho => hw j o (by simpa using ho))]
  · by_cases hb : t < a0.tmps.size
    · rw [h.done j o t hj ho hl hb, putF_at t _ 0 _ j o (by simpa using hj) ho (fun j' o' hj' ho' => dst_one hd hj (by simpa using hj') ho ho') hb]
      simp
    · rw [Array.getElem?_eq_none (by rw [h.size]; exact Nat.le_of_not_lt hb), Array.getElem?_eq_none (by rw [putF_size]; exact Nat.le_of_not_lt hb)]

/-- **A region whose order is open**: S tells, of what has been carried out and yielded, what the world is. -/
theorem wp_region_free {id : Nat} {w : World} (hmo : P.follows .mixedOrders = true) (S : Array Bool → (Nat → Value) → World → Prop) (fin : (Nat → Value) → Act) (hd : depsOk ops = true) (hdd : dstsOk ops = true) (hng : noGuard ops = true)
    (hfin : ∀ f, (fin f).tmps = putF f 0 ops.toList a0.tmps) (hdf : ∀ f, (fin f).defers = a0.defers) (f0 : Nat → Value) (h0 : S (Array.replicate ops.size false) f0 w.drew)
    (hstep : ∀ (i : Nat) (o : Oper), ops[i]? = some o → ∀ (listed : Array Bool) (f : Nat → Value) (w : World), listed.size = ops.size → listed.getD i true = false → (∀ x ∈ o.after, Region.binds .any x = true → listed.getD x.on false = true) → S listed f w →
      ∀ (a : Act) (K : Act → World → Prop), (∀ v w', S (listed.setIfInBounds i true) (updF f i v) w' → K (a.put o.dst v) w') → o.upon P a K Q ((execOp (fin f).eval o).run P w))
    (hend : ∀ (listed : Array Bool) (f : Nat → Value) (w : World), (∀ i, i < ops.size → listed.getD i false = true) → S listed f w → Q .normal (fin f) w) :
    (Code.region id ops true).wp P Q a0 w := by
  have readyOf : ∀ (listed : Array Bool) (i : Nat), i ∈ Region.ready .any ops listed → i < ops.size ∧ listed.getD i true = false ∧ ∀ x ∈ (ops.getD i default).after, Region.binds .any x = true → listed.getD x.on false = true := by
    intro listed i hi
    simp only [Region.ready, List.mem_filter, List.mem_range, Bool.and_eq_true, Bool.not_eq_true'] at hi
    obtain ⟨hlt, hun, hx⟩ := hi
    refine ⟨hlt, hun, fun x hmem hb => ?_⟩
    have ho : ops[i]? = some ops[i] := Array.getElem?_eq_getElem hlt
    rw [ho] at hx
    simp only [Option.map_some, Option.getD_some] at hx
    have hg : ops.getD i default = ops[i] := by simp [hlt]
    rw [hg] at hmem
    have h5 := Array.all_eq_true'.1 hx x hmem
    simpa [hb] using h5
  have noReady : ∀ (listed : Array Bool), listed.size = ops.size → Region.ready .any ops listed = [] → ∀ i, i < ops.size → listed.getD i true = true := by
    intro listed hs hr i
    induction i using Nat.strongRecOn with
    | _ i ih =>
      intro hi
      cases hl : listed.getD i true with
      | true => rfl
      | false =>
        exfalso
        have ho : ops[i]? = some ops[i] := Array.getElem?_eq_getElem hi
        have : i ∈ Region.ready .any ops listed := by
          simp only [Region.ready, List.mem_filter, List.mem_range, hi, hl, ho, Option.map_some, Option.getD_some, Bool.not_false, Bool.true_and, true_and]
          refine Array.all_eq_true'.2 fun x hx => ?_
          unfold depsOk at hd
          have h1 := List.all_eq_true.1 hd i (List.mem_range.2 hi)
          simp only [ho, Bool.and_eq_true] at h1
          have h2 := Array.all_eq_true'.1 h1.1.1 x hx
          simp only [Bool.or_eq_true, decide_eq_true_eq] at h2 ⊢
          rcases h2 with h2 | h2
          · exact .inl h2
          · right
            have h3 := ih x.on h2 (by omega)
            have hel : x.on < listed.size := by omega
            simpa [Array.getD, hel] using h3
        rw [hr] at this
        cases this
  have tt : ∀ (listed : Array Bool) (i : Nat), i < listed.size → listed.getD i true = true → listed.getD i false = true := by
    intro listed i hi h
    simpa [Array.getD, hi] using h
  have full : ∀ (f : Nat → Value) (listed : Array Bool) (a : Act), listed.size = ops.size → (∀ i, i < ops.size → listed.getD i true = true) → MidF ops a0 f listed a → a = fin f := by
    intro f listed a hs hl hm
    have : a.tmps = (fin f).tmps := by
      apply Array.ext_getElem?
      intro t
      refine hm.at hdd (hfin f) t ?_
      by_cases hw : ∃ (j : Nat) (o' : Oper), ops[j]? = some o' ∧ o'.dst = some t
      · obtain ⟨j, o', hj, hod⟩ := hw
        have hjn : j < ops.size := (Array.getElem?_eq_some_iff.1 hj).1
        exact .inr ⟨j, o', hj, hod, tt _ _ (by omega) (hl j hjn)⟩
      · exact .inl fun j o' hj hod => hw ⟨j, o', hj, hod⟩
    have h2 := hm.defers
    have h3 := hdf f
    revert this h2 h3
    generalize fin f = g
    cases a; cases g
    intro h1 h2 h3
    simp only at h1 h2 h3
    rw [h1, h2, h3]
  have main : ∀ (fuel : Nat) (listed : Array Bool) (f : Nat → Value) (a : Act) (w : World), listed.size = ops.size → (∀ l : List Nat, l.Nodup → (∀ i ∈ l, i < ops.size ∧ listed.getD i true = false) → l.length ≤ fuel) →
      MidF ops a0 f listed a → S listed f w → wpAny P .any ops Q fuel listed a w := by
    have fin_ : ∀ (listed : Array Bool) (f : Nat → Value) (a : Act) (w : World), listed.size = ops.size → (∀ i, i < ops.size → listed.getD i true = true) → MidF ops a0 f listed a → S listed f w → Q .normal a w := by
      intro listed f a w hs hl hm h
      rw [full f listed a hs hl hm]
      exact hend listed f w (fun i hi => tt _ _ (by omega) (hl i hi)) h
    intro fuel
    induction fuel with
    | zero =>
      intro listed f a w hs hf hm h
      have hl : ∀ i, i < ops.size → listed.getD i true = true := by
        intro i hi
        cases h : listed.getD i true with
        | true => rfl
        | false =>
          have := hf [i] (by simp) (fun j hj => by rw [List.mem_singleton.1 hj]; exact ⟨hi, h⟩)
          simp at this
      refine ⟨?_, fin_ listed f a w hs hl hm h⟩
      unfold Region.ready
      rw [List.filter_eq_nil_iff]
      intro i hi
      simp [hl i (List.mem_range.1 hi)]
    | succ fuel ih =>
      intro listed f a w hs hf hm h
      refine ⟨fun hr => fin_ listed f a w hs (noReady listed hs hr) hm h, fun i hi => ?_⟩
      obtain ⟨hlt, hun, hdeps⟩ := readyOf listed i hi
      have ho : ops[i]? = some ops[i] := Array.getElem?_eq_getElem hlt
      have hgd : ops.getD i default = ops[i] := by simp [hlt]
      rw [hgd] at hdeps
      have hil : i < listed.size := by omega
      have hf' : ∀ l : List Nat, l.Nodup → (∀ j ∈ l, j < ops.size ∧ (listed.setIfInBounds i true).getD j true = false) → l.length ≤ fuel := by
        intro l hnd hl
        have hni : i ∉ l := by
          intro hmem
          have := (hl i hmem).2
          rw [set_get hil] at this
          simp at this
        have := hf (i :: l) (List.nodup_cons.2 ⟨hni, hnd⟩) (by
          intro j hj
          rcases List.mem_cons.1 hj with rfl | hj
          · exact ⟨hlt, hun⟩
          · obtain ⟨h1, h2⟩ := hl j hj
            refine ⟨h1, ?_⟩
            have hne : j ≠ i := fun e => hni (e ▸ hj)
            rw [set_get hil, if_neg hne] at h2
            exact h2)
        simp at this
        omega
      have hlook : ∀ t ∈ ops[i].looksAt ops, a.tmps[t]? = (fin f).tmps[t]? := by
        intro t ht
        refine hm.at hdd (hfin f) t ?_
        by_cases hw : ∃ (j : Nat) (o' : Oper), ops[j]? = some o' ∧ o'.dst = some t
        · obtain ⟨j, o', hj, hod⟩ := hw
          have hjn : j < ops.size := (Array.getElem?_eq_some_iff.1 hj).1
          refine .inr ⟨j, o', hj, hod, ?_⟩
          unfold depsOk at hd
          have h1 := List.all_eq_true.1 hd i (List.mem_range.2 hlt)
          simp only [ho, Bool.and_eq_true] at h1
          have h2 := List.all_eq_true.1 h1.2 t ht
          have h3 := List.all_eq_true.1 h2 j (List.mem_range.2 hjn)
          simp only [hj, hod, bne_self_eq_false, Bool.false_or] at h3
          obtain ⟨e, he, heq⟩ := Array.any_eq_true'.1 h3
          simp only [Bool.and_eq_true, beq_iff_eq] at heq
          have := hdeps e he heq.2
          rwa [heq.1] at this
        · exact .inl fun j o' hj hod => hw ⟨j, o', hj, hod⟩
      have he : execOp a.eval ops[i] = execOp (fin f).eval ops[i] := by
        refine execOp_congr ops[i] ?_ ?_
        · intro cs b hc
          unfold depsOk at hd
          have h1 := List.all_eq_true.1 hd i (List.mem_range.2 hlt)
          simp [ho, hc] at h1
        · intro x hx
          cases x with
          | tmp t =>
            have ht : t ∈ ops[i].looksAt ops := by
              unfold Oper.looksAt
              refine List.mem_append.2 (.inl ?_)
              exact List.mem_filterMap.2 ⟨.tmp t, by simpa using hx, rfl⟩
            have := hlook t ht
            simp only [Act.eval, Array.getD_eq_getD_getElem?, this]
          | _ => rfl
      have hg : ops[i].guard = none := by
        have := List.all_eq_true.1 hng ops[i] (by simp)
        simpa using this
      unfold wpOp
      rw [ho]
      simp only [Region.wanted, hg, if_true]
      left
      unfold Oper.wp
      rw [he]
      exact hstep i _ ho listed f w hs hun hdeps h a _ fun v w' h' => ih _ _ _ w' (by simpa using hs) hf' (hm.put ho hil hdd v) h'
  refine wp_region_any hmo (main ops.size _ f0 a0 _ (by simp) ?_ MidF.start h0)
  intro l hnd hl
  exact nodup_le ops.size l hnd (fun i hi => (hl i hi).1)

theorem afterAll_of {Pv : Nat → Value → World → Prop} {f : Nat → Value} {w : World} : ∀ (l : List Edge), (∀ x ∈ l, Region.binds .any x = true → Pv x.on (f x.on) w) → AfterAll Pv f w l
  | [], _ => trivial
  | x :: r, h => ⟨h x (by simp), afterAll_of r (fun y hy => h y (List.mem_cons_of_mem _ hy))⟩

/-- The last operation comes behind all others. -/
def lastAll (ops : Array Oper) : Bool :=
  match ops[ops.size - 1]? with
  | none => false
  | some o => (List.range (ops.size - 1)).all fun j => o.after.any fun x => x.on == j && Region.binds .any x

/-- Each of the operations takes its step. -/
def StepsF (P : Program) (Q : Exit → Act → World → Prop) (R : World → Prop) (T : World → World → Prop) (Pv : Nat → Value → World → Prop) (fin : (Nat → Value) → Act) (f : Nat → Value) (w : World) : Nat → List Oper → Prop
  | _, [] => True
  | i, o :: r => (AfterAll Pv f w o.after.toList → ∀ (a : Act) (K : Act → World → Prop), (∀ v w', R w' → T w w' → Pv i v w' → K (a.put o.dst v) w') → o.upon P a K Q ((execOp (fin f).eval o).run P w)) ∧ StepsF P Q R T Pv fin f w (i + 1) r

theorem stepsF_at {R : World → Prop} {T : World → World → Prop} {Pv : Nat → Value → World → Prop} {fin : (Nat → Value) → Act} {f : Nat → Value} {w : World} : ∀ (l : List Oper) (k i : Nat) (o : Oper), l[i]? = some o → StepsF P Q R T Pv fin f w k l →
    (AfterAll Pv f w o.after.toList → ∀ (a : Act) (K : Act → World → Prop), (∀ v w', R w' → T w w' → Pv (k + i) v w' → K (a.put o.dst v) w') → o.upon P a K Q ((execOp (fin f).eval o).run P w))
  | [], _, _, _, h, _ => by simp at h
  | o' :: r, k, 0, o, h, hs => by simp at h; subst h; exact hs.1
  | o' :: r, k, i + 1, o, h, hs => by
    simp at h
    have := stepsF_at r (k + 1) i o h hs.2
    rwa [show k + 1 + i = k + (i + 1) by omega] at this

/-- **The same, with a relation for each operation but the last one**, which comes behind all others. T: what an operation may do to the world; Pv: what it yields, which T keeps. -/
theorem wp_region_local {id : Nat} {w : World} (hmo : P.follows .mixedOrders = true) (R : World → Prop) (T : World → World → Prop) (Pv : Nat → Value → World → Prop) (S2 : (Nat → Value) → World → Prop) (fin : (Nat → Value) → Act)
    (hd : depsOk ops = true) (hdd : dstsOk ops = true) (hng : noGuard ops = true) (hla : lastAll ops = true)
    (hfin : ∀ f, (fin f).tmps = putF f 0 ops.toList a0.tmps) (hdf : ∀ f, (fin f).defers = a0.defers)
    (hk : ∀ i v a b, T a b → Pv i v a → Pv i v b) (h0 : R w.drew)
    (hstep : ∀ (f : Nat → Value) (w : World), R w → StepsF P Q R T Pv fin f w 0 ops.toList.dropLast)
    (hlast : ∀ (o : Oper), ops[ops.size - 1]? = some o → ∀ (f : Nat → Value) (w : World), R w → (∀ i, i < ops.size - 1 → Pv i (f i) w) →
      ∀ (a : Act) (K : Act → World → Prop), (∀ v w', S2 (updF f (ops.size - 1) v) w' → K (a.put o.dst v) w') → o.upon P a K Q ((execOp (fin f).eval o).run P w))
    (hend : ∀ f w, S2 f w → Q .normal (fin f) w) :
    (Code.region id ops true).wp P Q a0 w := by
  have hne : 0 < ops.size := by
    unfold lastAll at hla
    rcases Nat.eq_zero_or_pos ops.size with h | h
    · rw [Array.getElem?_eq_none (by omega)] at hla; cases hla
    · exact h
  refine wp_region_free (P := P) (ops := ops) (Q := Q) (a0 := a0) hmo (fun listed f w => if listed.getD (ops.size - 1) false = true then (∀ j, j < ops.size → listed.getD j false = true) ∧ S2 f w else R w ∧ ∀ i, i < ops.size - 1 → listed.getD i false = true → Pv i (f i) w) fin hd hdd hng hfin hdf (fun _ => undef) ?_ ?_ ?_
  · have hr : ∀ i, (Array.replicate ops.size false).getD i false = false := fun i => by by_cases h : i < ops.size <;> simp [h]
    rw [if_neg (by rw [hr]; decide)]
    exact ⟨h0, fun i _ h => by rw [hr] at h; cases h⟩
  · intro i o hi listed f w hs hun hdeps hS a K hK
    have hlt : i < ops.size := (Array.getElem?_eq_some_iff.1 hi).1
    have hil : i < listed.size := by omega
    have hnl : ¬ listed.getD (ops.size - 1) false = true → R w ∧ ∀ i, i < ops.size - 1 → listed.getD i false = true → Pv i (f i) w := fun h => by rwa [if_neg h] at hS
    by_cases hlast' : i = ops.size - 1
    · subst hlast'
      have hnf : ¬ listed.getD (ops.size - 1) false = true := by
        intro h
        simp [Array.getD, hil] at h hun
        rw [h] at hun; cases hun
      obtain ⟨hR, hPv⟩ := hnl hnf
      have hall : ∀ j, j < ops.size - 1 → listed.getD j false = true := by
        intro j hj
        unfold lastAll at hla
        rw [hi] at hla
        simp only at hla
        have h1 := List.all_eq_true.1 hla j (List.mem_range.2 hj)
        obtain ⟨x, hx, hxx⟩ := Array.any_eq_true'.1 h1
        simp only [Bool.and_eq_true, beq_iff_eq] at hxx
        have := hdeps x hx hxx.2
        rwa [hxx.1] at this
      refine hlast o hi f w hR (fun j hj => hPv j hj (hall j hj)) a K fun v w' h2 => hK v w' ?_
      rw [set_get hil, if_pos rfl, if_pos rfl]
      refine ⟨fun j hj => ?_, h2⟩
      rw [set_get hil]
      split
      · rfl
      · exact hall j (by omega)
    · have hli : i < ops.size - 1 := by omega
      have hnf : ¬ listed.getD (ops.size - 1) false = true := by
        intro h
        rw [if_pos h] at hS
        have := hS.1 i hlt
        simp [Array.getD, hil] at this hun
        rw [this] at hun; cases hun
      obtain ⟨hR, hPv⟩ := hnl hnf
      have hd' : ops.toList.dropLast[i]? = some o := by
        rw [List.getElem?_dropLast, if_pos (by simpa using hli)]
        simpa using hi
      have hst := stepsF_at (P := P) (Q := Q) (R := R) (T := T) (Pv := Pv) (fin := fin) (f := f) (w := w) _ 0 i o hd' (hstep f w hR)
      rw [Nat.zero_add] at hst
      refine hst (afterAll_of _ fun x hx hb => ?_) a K fun v w' h1 h2 h3 => hK v w' ?_
      · have hxx := hdeps x (by simpa using hx) hb
        refine hPv x.on ?_ hxx
        refine Classical.byContradiction fun hn => ?_
        have hdx : x.on < i := by
          unfold depsOk at hd
          have h1 := List.all_eq_true.1 hd i (List.mem_range.2 hlt)
          simp only [hi, Bool.and_eq_true] at h1
          have h2 := Array.all_eq_true'.1 h1.1.1 x (by simpa using hx)
          simpa [hb] using h2
        omega
      · have hg : (listed.setIfInBounds i true).getD (ops.size - 1) false = listed.getD (ops.size - 1) false := by rw [set_get hil, if_neg (fun h => hlast' h.symm)]
        rw [hg, if_neg hnf]
        refine ⟨h1, fun j hj hl => ?_⟩
        by_cases e : j = i
        · subst e
          unfold updF; rw [if_pos rfl]; exact h3
        · rw [set_get hil, if_neg e] at hl
          unfold updF; rw [if_neg e]
          exact hk _ _ _ _ h2 (hPv j hj hl)
  · intro listed f w hl hS
    rw [if_pos (hl _ (by omega))] at hS
    exact hend f w hS.2
end
end Go.Proofs.Ytakldmbbmefnbaa
