/- A region whose order is open, with one operation whose value hangs on the world (an append, say), and a last one that stores. -/
import Derived.Test.YtakldmbbmefnbaaRegion
import Derived.OrdersIn
namespace Go.Proofs.Ytakldmbbmefnbaa
open Go.RowKit

/-- What is no 'pre' and not e comes behind e. -/
def preOk (ops : Array Oper) (e : Nat) (pre : Nat → Bool) : Bool :=
  (List.range ops.size).all fun i => i == e || pre i || (match ops[i]? with
    | none => true
    | some o => o.after.any fun x => Region.binds .any x && (x.on == e || !pre x.on))

/-- The last operation comes behind all others. -/
def lastOk (ops : Array Oper) : Bool :=
  match ops[ops.size - 1]? with
  | none => false
  | some o => (List.range (ops.size - 1)).all fun j => o.after.any fun x => x.on == j && Region.binds .any x

def stepIn (F : Fence) (n : Nat) (P : Program) (ops : Array Oper) (Q : Exit → Act → World → Prop) (S : World → Prop) (fin : Act) (o : Oper) (w : World) : Prop :=
  if Region.wanted o (yielded ops fin.tmps) then (∀ f, o.about P w fin.eval = some f → F.fn f) ∧ ∀ (a : Act) (K : Act → World → Prop), (∀ w', S w' → K (a.put o.dst (valOf fin o)) w') → o.uponIn F n P a K Q ((o.semAt F.round fin.eval).run P w)
  else (∀ f, o.about P w fin.eval = some f → F.fn f) ∧ valOf fin o = undef

section
variable {F : Fence} {n : Nat} {P : Program} {ops : Array Oper} {Q : Exit → Act → World → Prop} {a0 : Act}

theorem semAt_congr {ro : Option Nat} {ρ ρ' : Operand → Value} (o : Oper) (hs : ∀ cs b, o.op ≠ .select cs b) (h : ∀ x ∈ o.op.operands, ρ x = ρ' x) : o.semAt ro ρ = o.semAt ro ρ' := by
  unfold Oper.semAt
  split
  · rename_i l c hc
    have : resolve ρ c o.type = resolve ρ' c o.type := resolve_congr c o.type (fun x hx => h x (by rw [hc]; exact hx))
    rw [this]
  · exact execOp_congr o hs h

theorem look_all {listed : Array Bool} {a fin : Act} (h : Mid ops a0 fin listed a) (hall : ∀ t : Tmp, (∀ (j : Nat) (o : Oper), ops[j]? = some o → o.dst ≠ some t) → fin.tmps[t]? = a0.tmps[t]?) (hd : depsOk ops = true) {i : Nat} {o : Oper} (hi : ops[i]? = some o) (hr : i ∈ Region.ready .any ops listed) :
    Region.wanted o (yielded ops a.tmps) = Region.wanted o (yielded ops fin.tmps) ∧ (∀ ro, o.semAt ro a.eval = o.semAt ro fin.eval) ∧ (∀ w, o.about P w a.eval = o.about P w fin.eval) := by
  have hin : i < ops.size := (Array.getElem?_eq_some_iff.1 hi).1
  have hlook : ∀ t ∈ o.looksAt ops, a.tmps[t]? = fin.tmps[t]? := fun t ht => h.look hall hi hd hr ht
  have hev : ∀ x ∈ o.op.operands, a.eval x = fin.eval x := by
    intro x hx
    cases x with
    | tmp t =>
      have ht : t ∈ o.looksAt ops := by
        unfold Oper.looksAt
        refine List.mem_append.2 (.inl ?_)
        exact List.mem_filterMap.2 ⟨.tmp t, by simpa using hx, rfl⟩
      have := hlook t ht
      simp only [Act.eval, Array.getD_eq_getD_getElem?, this]
    | _ => rfl
  refine ⟨?_, fun ro => semAt_congr o ?_ hev, fun w => ?_⟩
  · unfold Region.wanted
    cases hg : o.guard with
    | none => rfl
    | some g =>
      obtain ⟨j, want⟩ := g
      simp only [yielded]
      cases hj : (ops[j]?).bind (·.dst) with
      | none => rfl
      | some t =>
        have : t ∈ o.looksAt ops := by simp [Oper.looksAt, hg, hj]
        simp [hlook t this]
  · intro cs b hc
    unfold depsOk at hd
    have h1 := List.all_eq_true.1 hd i (List.mem_range.2 hin)
    simp [hi, hc] at h1
  · unfold Oper.about
    cases hop : o.op with
    | call c =>
      have : resolve a.eval c o.type = resolve fin.eval c o.type := resolve_congr c o.type (fun x hx => hev x (by rw [hop]; exact hx))
      simp only [this]
    | _ => rfl

/-- The world, and the value that hangs on it, as far as the operations have come. -/
inductive Phase (S0 : Array Bool → World → Prop) (S1 S2 : Value → World → Prop) (fin : Value → Act) (ops : Array Oper) (a0 : Act) (e : Nat) (pre : Nat → Bool) (listed : Array Bool) (a : Act) (w : World) : Prop
  | before (h : S0 listed w) (hn : listed.getD e true = false) (hp : ∀ j, listed.getD j false = true → pre j = true) (hm : ∀ v, Mid ops a0 (fin v) listed a)
  | mid (v : Value) (h : S1 v w) (he : listed.getD e true = true) (hn : listed.getD (ops.size - 1) true = false) (hde : ∀ x ∈ (ops.getD e default).after, Region.binds .any x = true → listed.getD x.on false = true) (hm : Mid ops a0 (fin v) listed a)
  | last (v : Value) (h : S2 v w) (hl : ∀ i, i < ops.size → listed.getD i true = true) (hm : Mid ops a0 (fin v) listed a)

theorem wpIn_region_eff {id : Nat} {w : World} (hmo : P.follows .mixedOrders = true) (e : Nat) (pre : Nat → Bool) (S0 : Array Bool → World → Prop) (S1 S2 : Value → World → Prop) (fin : Value → Act)
    (hd : depsOk ops = true) (hdd : dstsOk ops = true) (hp : preOk ops e pre = true) (hlo : lastOk ops = true) (hel : e < ops.size - 1) (hpe : pre e = false) (hpl : pre (ops.size - 1) = false)
    (hfin : ∀ v, (fin v).tmps = putAll (fin v) ops.toList a0.tmps) (hdf : ∀ v, (fin v).defers = a0.defers)
    (hsame : ∀ v v' (i : Nat) (o : Oper), ops[i]? = some o → pre i = true → valOf (fin v) o = valOf (fin v') o)
    (hval : ∀ v (o : Oper), ops[e]? = some o → valOf (fin v) o = v)
    (h0 : S0 (Array.replicate ops.size false) w.drew)
    (hstep0 : ∀ (i : Nat) (o : Oper), ops[i]? = some o → pre i = true → ∀ listed v w, listed.size = ops.size → listed.getD i true = false → S0 listed w → stepIn F n P ops Q (S0 (listed.setIfInBounds i true)) (fin v) o w ∧ (Region.wanted o (yielded ops (fin v).tmps) = false → S0 (listed.setIfInBounds i true) w))
    (hstepe : ∀ (o : Oper), ops[e]? = some o → ∀ listed v w, (∀ x ∈ (ops.getD e default).after, Region.binds .any x = true → listed.getD x.on false = true) → S0 listed w → Region.wanted o (yielded ops (fin v).tmps) = true ∧ (∀ f, o.about P w (fin v).eval = some f → F.fn f) ∧
      ∀ (a : Act) (K : Act → World → Prop), (∀ v' w', S1 v' w' → K (a.put o.dst v') w') → o.uponIn F n P a K Q ((o.semAt F.round (fin v).eval).run P w))
    (hstep1 : ∀ (i : Nat) (o : Oper), ops[i]? = some o → i ≠ e → i ≠ ops.size - 1 → ((ops.getD e default).after.any fun x => Region.binds .any x && x.on == i) = false → ∀ v w, S1 v w → stepIn F n P ops Q (S1 v) (fin v) o w)
    (hlast : ∀ (o : Oper), ops[ops.size - 1]? = some o → ∀ v w, S1 v w → stepIn F n P ops Q (S2 v) (fin v) o w)
    (hlw : ∀ v, (match ops[ops.size - 1]? with | some o => Region.wanted o (yielded ops (fin v).tmps) | none => true) = true)
    (hend : ∀ v w, S2 v w → Q .normal (fin v) w) :
    (Code.region id ops true).wpIn F n P Q a0 w := by
  have hsz : ∀ v, a0.tmps.size = (fin v).tmps.size := fun v => by
    have := congrArg Array.size (hfin v)
    rw [putAll_size] at this
    exact this.symm
  have hall : ∀ v, ∀ t : Tmp, (∀ (j : Nat) (o : Oper), ops[j]? = some o → o.dst ≠ some t) → (fin v).tmps[t]? = a0.tmps[t]? := by
    intro v t ht
    have h1 : (ops.toList.any fun o => o.dst == some t) = false := by
      rw [List.any_eq_false]
      intro o ho
      obtain ⟨j, hj, rfl⟩ := List.getElem_of_mem ho
      have := ht j ops[j] (Array.getElem?_eq_getElem (by simpa using hj))
      simpa using this
    have h := putAll_other (fin := fin v) t _ a0.tmps h1
    rw [← hfin v] at h
    exact h
  have full : ∀ (v : Value) (listed : Array Bool) (a : Act), listed.size = ops.size → (∀ i, i < ops.size → listed.getD i true = true) → Mid ops a0 (fin v) listed a → a = fin v := by
    intro v listed a hs hl hm
    have : a.tmps = (fin v).tmps := by
      apply Array.ext_getElem?
      intro t
      by_cases hw : ∃ (j : Nat) (o' : Oper), ops[j]? = some o' ∧ o'.dst = some t
      · obtain ⟨j, o', hj, hod⟩ := hw
        have hjn : j < ops.size := (Array.getElem?_eq_some_iff.1 hj).1
        refine hm.done j o' t hj hod ?_
        have := hl j hjn
        have hjl : j < listed.size := by omega
        simpa [Array.getD, hjl] using this
      · have hw' : ∀ (j : Nat) (o' : Oper), ops[j]? = some o' → o'.dst ≠ some t := fun j o' hj hod => hw ⟨j, o', hj, hod⟩
        rw [hall v t hw']
        exact hm.rest t (fun j o' hj _ => hw' j o' hj)
    have h2 := hm.defers
    have h3 := hdf v
    revert this h2 h3
    generalize fin v = f
    cases a; cases f
    intro h1 h2 h3
    simp only at h1 h2 h3
    rw [h1, h2, h3]
  have readyOf : ∀ (listed : Array Bool) (i : Nat), listed.size = ops.size → i ∈ Region.ready .any ops listed → i < ops.size ∧ listed.getD i true = false ∧ ∀ x ∈ (ops.getD i default).after, Region.binds .any x = true → listed.getD x.on false = true := by
    intro listed i hs hi
    simp only [Region.ready, List.mem_filter, List.mem_range, Bool.and_eq_true, Bool.not_eq_true'] at hi
    obtain ⟨hlt, hun, hx⟩ := hi
    refine ⟨hlt, hun, fun x hmem hb => ?_⟩
    have ho : ops[i]? = some ops[i] := Array.getElem?_eq_getElem hlt
    rw [ho] at hx
    simp only [Option.map_some, Option.getD_some] at hx
    have hg : ops.getD i default = ops[i] := by simp [hlt]
    rw [hg] at hmem
    have h5 := Array.all_eq_true'.1 hx x hmem
    simpa [hb] using h5
  have noReady : ∀ (listed : Array Bool), listed.size = ops.size → Region.ready .any ops listed = [] → ∀ i, i < ops.size → listed.getD i true = true := by
    intro listed hs hr i
    induction i using Nat.strongRecOn with
    | _ i ih =>
      intro hi
      cases hl : listed.getD i true with
      | true => rfl
      | false =>
        exfalso
        have ho : ops[i]? = some ops[i] := Array.getElem?_eq_getElem hi
        have : i ∈ Region.ready .any ops listed := by
          simp only [Region.ready, List.mem_filter, List.mem_range, hi, hl, ho, Option.map_some, Option.getD_some, Bool.not_false, Bool.true_and, true_and]
          refine Array.all_eq_true'.2 fun x hx => ?_
          unfold depsOk at hd
          have h1 := List.all_eq_true.1 hd i (List.mem_range.2 hi)
          simp only [ho, Bool.and_eq_true] at h1
          have h2 := Array.all_eq_true'.1 h1.1.1 x hx
          simp only [Bool.or_eq_true, decide_eq_true_eq] at h2 ⊢
          rcases h2 with h2 | h2
          · exact .inl h2
          · right
            have h3 := ih x.on h2 (by omega)
            have hel : x.on < listed.size := by omega
            simpa [Array.getD, hel] using h3
        rw [hr] at this
        cases this
  have setGet : ∀ (listed : Array Bool) (i j : Nat) (d : Bool), i < listed.size → (listed.setIfInBounds i true).getD j d = if j = i then true else listed.getD j d := by
    intro listed i j d hi
    by_cases he : j = i
    · subst he; simp [hi]
    · simp only [he, if_false, Array.getD_eq_getD_getElem?]
      rw [Array.getElem?_setIfInBounds_ne (fun h => he h.symm)]
  have main : ∀ (fuel : Nat) (listed : Array Bool) (a : Act) (w : World), listed.size = ops.size → (∀ l : List Nat, l.Nodup → (∀ i ∈ l, i < ops.size ∧ listed.getD i true = false) → l.length ≤ fuel) →
      Phase S0 S1 S2 fin ops a0 e pre listed a w → wpAnyIn F n P .any ops Q fuel listed a w := by
    have done : ∀ (listed : Array Bool) (a : Act) (w : World), listed.size = ops.size → (∀ i, i < ops.size → listed.getD i true = true) → Phase S0 S1 S2 fin ops a0 e pre listed a w → Q .normal a w := by
      intro listed a w hs hl hph
      cases hph with
      | before h hn _ _ => rw [hl e (by omega)] at hn; cases hn
      | mid v h he hn hde hm => rw [hl (ops.size - 1) (by omega)] at hn; cases hn
      | last v h _ hm => exact full v listed a hs hl hm ▸ hend v w h
    intro fuel
    induction fuel with
    | zero =>
      intro listed a w hs hf hph
      have hl : ∀ i, i < ops.size → listed.getD i true = true := by
        intro i hi
        cases h : listed.getD i true with
        | true => rfl
        | false =>
          have := hf [i] (by simp) (fun j hj => by rw [List.mem_singleton.1 hj]; exact ⟨hi, h⟩)
          simp at this
      refine ⟨?_, done listed a w hs hl hph⟩
      unfold Region.ready
      rw [List.filter_eq_nil_iff]
      intro i hi
      simp [hl i (List.mem_range.1 hi)]
    | succ fuel ih =>
      intro listed a w hs hf hph
      refine ⟨fun hr => done listed a w hs (noReady listed hs hr) hph, fun i hi => ?_⟩
      obtain ⟨hlt, hun, hdeps⟩ := readyOf listed i hs hi
      have ho : ops[i]? = some ops[i] := Array.getElem?_eq_getElem hlt
      have hgd : ops.getD i default = ops[i] := by simp [hlt]
      rw [hgd] at hdeps
      have hil : i < listed.size := by omega
      have hf' : ∀ l : List Nat, l.Nodup → (∀ j ∈ l, j < ops.size ∧ (listed.setIfInBounds i true).getD j true = false) → l.length ≤ fuel := by
        intro l hnd hl
        have hni : i ∉ l := by
          intro hmem
          have := (hl i hmem).2
          rw [setGet _ _ _ _ hil] at this
          simp at this
        have := hf (i :: l) (List.nodup_cons.2 ⟨hni, hnd⟩) (by
          intro j hj
          rcases List.mem_cons.1 hj with rfl | hj
          · exact ⟨hlt, hun⟩
          · obtain ⟨h1, h2⟩ := hl j hj
            refine ⟨h1, ?_⟩
            have hne : j ≠ i := fun e => hni (e ▸ hj)
            rw [setGet _ _ _ _ hil, if_neg hne] at h2
            exact h2)
        simp at this
        omega
      -- one step, by what is listed
      have go : ∀ (v : Value) (S : World → Prop), Mid ops a0 (fin v) listed a → stepIn F n P ops Q S (fin v) ops[i] w → (Region.wanted ops[i] (yielded ops (fin v).tmps) = false → S w) →
          (∀ w', S w' → wpAnyIn F n P .any ops Q fuel (listed.setIfInBounds i true) (a.put ops[i].dst (valOf (fin v) ops[i])) w') → wpOpIn F n P ops Q i (wpAnyIn F n P .any ops Q fuel (listed.setIfInBounds i true)) a w := by
        intro v S hm hst hw0 hK
        obtain ⟨hy, hsem, hab⟩ := look_all (P := P) hm (hall v) hd ho hi
        unfold wpOpIn
        rw [ho]
        simp only [hy]
        unfold stepIn at hst
        by_cases hwt : Region.wanted ops[i] (yielded ops (fin v).tmps) = true
        · rw [if_pos hwt] at hst ⊢
          unfold Oper.wpIn
          rw [hab w, hsem]
          exact ⟨hst.1, hst.2 a _ hK⟩
        · rw [if_neg hwt] at hst ⊢
          rw [hab w]
          refine ⟨hst.1, ?_⟩
          have := hK w (hw0 (by simpa using hwt))
          rw [hst.2] at this
          exact this
      cases hph with
      | before h hn hpp hm =>
        by_cases hie : i = e
        · subst hie
          obtain ⟨hw, hab0, hst⟩ := hstepe _ ho listed undef w (fun x hx => hdeps x (by rw [← hgd]; exact hx)) h
          obtain ⟨hy, hsem, hab⟩ := look_all (P := P) (hm undef) (hall undef) hd ho hi
          unfold wpOpIn
          rw [ho]
          simp only [hy, hw, if_true]
          unfold Oper.wpIn
          rw [hab w, hsem]
          refine ⟨hab0, hst a _ fun v' w' h1 => ?_⟩
          refine ih _ _ w' (by simpa using hs) hf' (.mid v' h1 ?_ ?_ (fun x hx hb => ?hde) ?_)
          case hde =>
            rw [setGet _ _ _ _ hil]
            split
            · rfl
            · exact hdeps x (by rw [← hgd]; exact hx) hb
          · rw [setGet _ _ _ _ hil]; simp
          · rw [setGet _ _ _ _ hil, if_neg (by omega)]
            cases hx : listed.getD (ops.size - 1) true with
            | false => rfl
            | true =>
              have h2 : listed.getD (ops.size - 1) false = true := by
                have hb : ops.size - 1 < listed.size := by omega
                simpa [Array.getD, hb] using hx
              have := hpp _ h2
              rw [hpl] at this; cases this
          · have := (hm v').put ho hil hdd
            rw [hval v' _ ho] at this
            exact this
        · have hpi : pre i = true := by
            unfold preOk at hp
            have h1 := List.all_eq_true.1 hp i (List.mem_range.2 hlt)
            simp only [ho, Bool.or_eq_true, beq_iff_eq, hie, false_or] at h1
            rcases h1 with h1 | h1
            · exact h1
            · exfalso
              obtain ⟨x, hx, hxx⟩ := Array.any_eq_true'.1 h1
              simp only [Bool.and_eq_true, Bool.or_eq_true, beq_iff_eq, Bool.not_eq_true'] at hxx
              have hl := hdeps x hx hxx.1
              rcases hxx.2 with h2 | h2
              · rw [h2] at hl
                have hb : e < listed.size := by omega
                simp [Array.getD, hb] at hl hn
                rw [hl] at hn; cases hn
              · have := hpp _ hl
                rw [h2] at this; cases this
          obtain ⟨hs1, hs2⟩ := hstep0 i _ ho hpi listed undef w hs hun h
          refine go undef (S0 (listed.setIfInBounds i true)) (hm undef) hs1 hs2 fun w' h' => ih _ _ w' (by simpa using hs) hf' (.before h' ?_ ?_ ?_)
          · rw [setGet _ _ _ _ hil, if_neg (fun he => hie he.symm)]; exact hn
          · intro j hj
            rw [setGet _ _ _ _ hil] at hj
            by_cases hji : j = i
            · rw [hji]; exact hpi
            · rw [if_neg hji] at hj; exact hpp j hj
          · intro v
            have := (hm v).put ho hil hdd
            rw [hsame v undef i _ ho hpi] at this
            exact this
      | mid v h he hn hde hm =>
        have hie : i ≠ e := by
          rintro rfl
          rw [he] at hun; cases hun
        by_cases hil2 : i = ops.size - 1
        · have hlall : ∀ j, j < ops.size → (listed.setIfInBounds i true).getD j true = true := by
            intro j hj
            rw [setGet _ _ _ _ hil]
            by_cases hji : j = i
            · rw [if_pos hji]
            · rw [if_neg hji]
              have hlo' := hlo
              unfold lastOk at hlo'
              rw [← hil2, ho] at hlo'
              simp only at hlo'
              have h1 := List.all_eq_true.1 hlo' j (List.mem_range.2 (by omega))
              obtain ⟨x, hx, hxx⟩ := Array.any_eq_true'.1 h1
              simp only [Bool.and_eq_true, beq_iff_eq] at hxx
              have := hdeps x hx hxx.2
              rw [hxx.1] at this
              have hb : j < listed.size := by omega
              simpa [Array.getD, hb] using this
          refine go v (S2 v) hm (hlast _ (hil2 ▸ ho) v w h) (fun hwf => ?_) fun w' h' => ih _ _ w' (by simpa using hs) hf' (.last v h' hlall (hm.put ho hil hdd))
          -- the last operation is carried out
          have h9 := hlw v
          rw [← hil2, ho] at h9
          simp only at h9
          rw [h9] at hwf; cases hwf
        · refine go v (S1 v) hm (hstep1 i _ ho hie hil2 ?hnd v w h) (fun _ => h) fun w' h' => ih _ _ w' (by simpa using hs) hf' (.mid v h' ?_ ?_ (fun x hx hb => ?hde) (hm.put ho hil hdd))
          case hnd =>
            rw [Array.any_eq_false']
            intro x hx hb
            simp only [Bool.and_eq_true, beq_iff_eq] at hb
            have h5 := hde x hx hb.1
            rw [hb.2] at h5
            simp [Array.getD, hil] at h5 hun
            rw [h5] at hun; cases hun
          case hde =>
            rw [setGet _ _ _ _ hil]
            split
            · rfl
            · exact hde x hx hb
          · rw [setGet _ _ _ _ hil]; split <;> simp_all
          · rw [setGet _ _ _ _ hil, if_neg (fun he => hil2 he.symm)]; exact hn
      | last v h hl hm =>
        rw [hl i hlt] at hun; cases hun
  refine wpIn_region_any hmo (main ops.size _ a0 _ (by simp) ?_ (.before h0 ?_ ?_ fun v => Mid.start (hsz v)))
  · intro l hnd hl
    exact nodup_le ops.size l hnd (fun i hi => (hl i hi).1)
  · have : e < ops.size := by omega
    simp [this]
  · intro j hj
    by_cases h : j < ops.size <;> simp [h] at hj
end
end Go.Proofs.Ytakldmbbmefnbaa
