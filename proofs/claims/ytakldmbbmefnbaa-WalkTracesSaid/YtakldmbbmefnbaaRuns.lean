/- What a run along a word is; no program in sight. -/
import Derived.Test.YtakldmbbmefnbaaWalk11
namespace Go.Proofs.Ytakldmbbmefnbaa

/-- From a state along a word to a state. -/
inductive Comes (a : A) : Int → List UInt8 → Int → Prop
  | nil (s : Int) : Comes a s [] s
  | free {e : E} {w : List UInt8} {t : Int} (h : e ∈ a.edges) (hf : e.free = true) (hr : Comes a e.dst w t) : Comes a e.src w t
  | byte {e : E} {b : UInt8} {w : List UInt8} {t : Int} (h : e ∈ a.edges) (hf : e.free = false) (hb : e.set.has b.toNat = true) (hr : Comes a e.dst w t) : Comes a e.src (b :: w) t

variable {a : A}

theorem Comes.append {s t u : Int} {v w : List UInt8} (h : Comes a s v t) (k : Comes a t w u) : Comes a s (v ++ w) u := by
  induction h with
  | nil => exact k
  | free h hf _ ih => exact .free h hf (ih k)
  | byte h hf hb _ ih => exact .byte h hf hb (ih k)
theorem Comes.head {s t : Int} {b : UInt8} {w : List UInt8} (h : Comes a s (b :: w) t) : ∃ r, Comes a s [b] r ∧ Comes a r w t := by
  generalize hv : b :: w = v at h
  induction h with
  | nil => cases hv
  | free h hf _ ih =>
    obtain ⟨r, h1, h2⟩ := ih hv
    exact ⟨r, .free h hf h1, h2⟩
  | byte h hf hb hr _ =>
    cases hv
    exact ⟨_, .byte h hf hb (.nil _), hr⟩

theorem Comes.one {r t : Int} {v : List UInt8} {b : UInt8} (h : Comes a r v t) : v = [b] → ∃ e ∈ a.edges, e.free = false ∧ e.set.has b.toNat = true ∧ Comes a r [] e.src ∧ Comes a e.dst [] t := by
  induction h with
  | nil => intro h; cases h
  | free he hf _ ih =>
    intro hv
    obtain ⟨e, h1, h2, h3, h4, h5⟩ := ih hv
    exact ⟨e, h1, h2, h3, .free he hf h4, h5⟩
  | byte he hf hb hr _ =>
    intro hv
    cases hv
    exact ⟨_, he, hf, hb, .nil _, hr⟩

theorem bv_zero (x : BitVec 64) (h : ∀ j, j < 64 → x.getLsbD j = false) : x = 0#64 := by
  apply BitVec.eq_of_getLsbD_eq
  intro i hi
  rw [h i hi]
  simp
theorem has_none (s : BSet) (h : ∀ b, b < 256 → s.has b = false) : s = ⟨0#64, 0#64, 0#64, 0#64⟩ := by
  have hw : ∀ i, i < 4 → s.word i = 0#64 := by
    intro i hi
    refine bv_zero _ fun j hj => ?_
    have := h (i * 64 + j) (by omega)
    unfold BSet.has at this
    rwa [show (i * 64 + j) / 64 = i by omega, show (i * 64 + j) % 64 = j by omega] at this
  obtain ⟨w0, w1, w2, w3⟩ := s
  have h0 := hw 0 (by decide)
  have h1 := hw 1 (by decide)
  have h2 := hw 2 (by decide)
  have h3 := hw 3 (by decide)
  simp only [BSet.word] at h0 h1 h2 h3
  rw [h0, h1, h2, h3]
theorem edge_in (ha : Fit a) {e : E} (he : e ∈ a.edges) : (0 ≤ e.src ∧ e.src < a.states) ∧ (0 ≤ e.dst ∧ e.dst < a.states) ∧ (e.free = false → ∃ b : UInt8, e.set.has b.toNat = true) := by
  have h := ha.ok
  simp only [A.ok, Bool.and_eq_true, List.all_eq_true] at h
  have h1 := h.2 e he
  simp [mayE, inB] at h1
  refine ⟨by omega, by omega, fun hf => ?_⟩
  have hc : ¬ e.set.count = 0 := by
    have := h1.2
    rw [hf] at this
    simp at this
    omega
  exact Classical.byContradiction fun hno => hc ((count_zero e.set).2 (by
    exact has_none e.set fun b hb => by
      have := fun h => hno ⟨UInt8.ofNat b, h⟩
      have e1 : (UInt8.ofNat b).toNat = b := by simp; omega
      rw [e1] at this
      simpa using this))

def Inb (a : A) (l : List Int) : Prop := ∀ s ∈ l, 0 ≤ s ∧ s < a.states

theorem goes_in (ha : Fit a) {p : E → Bool} {l : List Int} (hl : Inb a l) {s : Int} (h : Goes (a.pairs false p) l s) : 0 ≤ s ∧ s < a.states := by
  cases h with
  | start h => exact hl _ h
  | step _ hp =>
    obtain ⟨e, he, h2⟩ := List.mem_map.1 hp
    simp [turned] at h2
    have := edge_in ha (List.mem_filter.1 he).1
    omega
theorem mem_clo (ha : Fit a) {l : List Int} (hl : Inb a l) {s : Int} : s ∈ a.clo l ↔ ∃ r ∈ l, Comes a r [] s := by
  have h0 : 0 ≤ a.states := by have := ha.ok; simp [A.ok] at this; omega
  unfold A.clo
  rw [mem_cl]
  constructor
  · intro h9
    replace h9 := h9.2
    induction h9 with
    | start h => exact ⟨_, h, .nil _⟩
    | @step r s _ hp ih =>
      obtain ⟨q, hq, hc⟩ := ih
      obtain ⟨e, he, h2⟩ := List.mem_map.1 hp
      simp [turned] at h2
      obtain ⟨rfl, rfl⟩ := h2
      have hm := List.mem_filter.1 he
      refine ⟨q, hq, ?_⟩
      have := hc.append (.free hm.1 (by simpa using hm.2) (.nil e.dst))
      simpa using this
  · rintro ⟨r, hr, hc⟩
    have hg : Goes (a.pairs false (fun e => e.free)) l s := by
      have h1 : Goes (a.pairs false (fun e => e.free)) l r := .start hr
      generalize hv : ([] : List UInt8) = v at hc
      clear hr
      induction hc with
      | nil => exact h1
      | @free e w t he hf _ ih =>
        refine ih (.step h1 ?_) hv
        exact List.mem_map.2 ⟨e, List.mem_filter.2 ⟨he, hf⟩, by simp [turned]⟩
      | byte => cases hv
    have := goes_in ha hl hg
    exact ⟨by omega, hg⟩
theorem inb_clo (ha : Fit a) (l : List Int) : Inb a (a.clo l) := by
  intro s hs
  have := List.all_eq_true.1 (A.clo_in ha l) s hs
  simp [inB] at this
  omega
theorem mem_step (ha : Fit a) {l : List Int} (hl : Inb a l) {b : UInt8} {t : Int} : t ∈ a.step l b.toNat ↔ ∃ r ∈ l, Comes a r [b] t := by
  unfold A.step
  have hin : Inb a ((a.edges.filter (leads (a.clo l) b.toNat)).map (fun e => e.dst)) := by
    intro s hs
    obtain ⟨e, he, rfl⟩ := List.mem_map.1 hs
    have := edge_in ha (List.mem_filter.1 he).1
    omega
  rw [mem_clo ha hin]
  constructor
  · rintro ⟨r, hr, hc⟩
    obtain ⟨e, he, rfl⟩ := List.mem_map.1 hr
    obtain ⟨h1, h2⟩ := List.mem_filter.1 he
    simp only [leads, Bool.and_eq_true, Bool.not_eq_true', List.any_eq_true, beq_iff_eq] at h2
    obtain ⟨⟨h3, h4⟩, q, h5, h6⟩ := h2
    obtain ⟨r, hr, hc2⟩ := (mem_clo ha hl).1 h5
    refine ⟨r, hr, ?_⟩
    have hq : q = e.src := h6.symm
    subst hq
    have := hc2.append (.byte h1 h3 h4 hc)
    simpa using this
  · rintro ⟨r, hr, hc⟩
    obtain ⟨e, h1, h2, h3, h4, h5⟩ := hc.one rfl
    refine ⟨e.dst, List.mem_map.2 ⟨e, List.mem_filter.2 ⟨h1, ?_⟩, rfl⟩, h5⟩
    simp only [leads, Bool.and_eq_true, Bool.not_eq_true', List.any_eq_true, beq_iff_eq]
    exact ⟨⟨h2, h3⟩, e.src, (mem_clo ha hl).2 ⟨r, hr, h4⟩, rfl⟩
theorem inb_step (ha : Fit a) (l : List Int) (b : Nat) : Inb a (a.step l b) := inb_clo ha _
theorem inb_start (ha : Fit a) : Inb a a.start := by
  intro s hs
  have := List.all_eq_true.1 ha.start s hs
  simp [inB] at this
  omega
theorem inb_final (ha : Fit a) : Inb a a.final := by
  intro s hs
  have := List.all_eq_true.1 ha.final s hs
  simp [inB] at this
  omega

theorem mem_run (ha : Fit a) (w : List UInt8) : ∀ {l : List Int}, Inb a l → (∀ r t, r ∈ l → Comes a r [] t → t ∈ l) → ∀ {t : Int}, t ∈ w.foldl (fun l b => a.step l b.toNat) l ↔ ∃ r ∈ l, Comes a r w t := by
  induction w with
  | nil =>
    intro l _ hc t
    exact ⟨fun h => ⟨t, h, .nil t⟩, fun ⟨r, hr, h⟩ => hc r t hr h⟩
  | cons b w ih =>
    intro l hl hc t
    rw [List.foldl_cons, ih (inb_step ha l _) (fun r t hr h => by
      obtain ⟨q, hq, h2⟩ := (mem_step ha hl).1 hr
      refine (mem_step ha hl).2 ⟨q, hq, ?_⟩
      have := h2.append h
      simpa using this)]
    constructor
    · rintro ⟨r, hr, h⟩
      obtain ⟨q, hq, h2⟩ := (mem_step ha hl).1 hr
      exact ⟨q, hq, h2.append h⟩
    · rintro ⟨q, hq, h⟩
      obtain ⟨r, h1, h2⟩ := h.head
      exact ⟨r, (mem_step ha hl).2 ⟨q, hq, h1⟩, h2⟩
theorem clo_closed (ha : Fit a) {l : List Int} (hl : Inb a l) (r t : Int) (hr : r ∈ a.clo l) (h : Comes a r [] t) : t ∈ a.clo l := by
  obtain ⟨q, hq, h2⟩ := (mem_clo ha hl).1 hr
  exact (mem_clo ha hl).2 ⟨q, hq, by simpa using h2.append h⟩
theorem mem_after (ha : Fit a) {w : List UInt8} {t : Int} : t ∈ a.after w ↔ ∃ r ∈ a.start, Comes a r w t := by
  unfold A.after
  rw [mem_run ha w (inb_clo ha _) (clo_closed ha (inb_start ha))]
  constructor
  · rintro ⟨r, hr, h⟩
    obtain ⟨q, hq, h2⟩ := (mem_clo ha (inb_start ha)).1 hr
    exact ⟨q, hq, by simpa using h2.append h⟩
  · rintro ⟨r, hr, h⟩
    exact ⟨r, (mem_clo ha (inb_start ha)).2 ⟨r, hr, .nil r⟩, h⟩
/-- Is a word taken? -/
def A.takes (a : A) (w : List UInt8) : Prop := ∃ r ∈ a.start, ∃ t ∈ a.final, Comes a r w t
theorem ends_after (ha : Fit a) (w : List UInt8) : a.ends (a.after w) = true ↔ a.takes w := by
  unfold A.ends A.takes
  rw [List.any_eq_true]
  simp only [List.any_eq_true, beq_iff_eq]
  constructor
  · rintro ⟨s, hs, f, hf, rfl⟩
    obtain ⟨r, hr, h⟩ := (mem_after ha).1 hs
    exact ⟨r, hr, _, hf, h⟩
  · rintro ⟨r, hr, t, ht, h⟩
    exact ⟨t, (mem_after ha).2 ⟨r, hr, h⟩, t, ht, rfl⟩

theorem far_comes (ha : Fit a) {s : Int} {c : Nat} : Far a s c ↔ ∃ w : List UInt8, w.length = c ∧ ∃ t ∈ a.final, Comes a s w t := by
  constructor
  · intro h
    induction h with
    | fin h => exact ⟨[], rfl, _, h, .nil _⟩
    | free h hf _ ih =>
      obtain ⟨w, hw, t, ht, hc⟩ := ih
      exact ⟨w, hw, t, ht, .free h hf hc⟩
    | byte h hf _ ih =>
      obtain ⟨w, hw, t, ht, hc⟩ := ih
      obtain ⟨b, hb⟩ := (edge_in ha h).2.2 hf
      exact ⟨b :: w, by simp [hw], t, ht, .byte h hf hb hc⟩
  · rintro ⟨w, rfl, t, ht, hc⟩
    induction hc with
    | nil => exact .fin ht
    | free h hf _ ih => exact .free h hf (ih ht)
    | byte h hf hb _ ih => exact .byte h hf (ih ht)
end Go.Proofs.Ytakldmbbmefnbaa
