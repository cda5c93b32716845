/- To which states one comes, from which one comes to a final, by runs along words; no program in sight. -/
import Derived.Test.YtakldmbbmefnbaaGreedy
namespace Go.Proofs.Ytakldmbbmefnbaa

variable {a : A}

theorem comes_edge (ha : Fit a) {e : E} (he : e ∈ a.edges) : ∃ w, Comes a e.src w e.dst := by
  cases hf : e.free with
  | true => exact ⟨[], .free he hf (.nil _)⟩
  | false =>
    obtain ⟨b, hb⟩ := (edge_in ha he).2.2 hf
    exact ⟨[b], .byte he hf hb (.nil _)⟩
theorem pair_in {back : Bool} {p : Int × Int} : p ∈ a.pairs back (fun _ => true) ↔ ∃ e ∈ a.edges, turned back e = p := by
  unfold A.pairs
  rw [List.mem_map]
  simp
theorem mem_reach (ha : Fit a) {l : List Int} (hl : Inb a l) {s : Int} : s ∈ a.reach l ↔ ∃ r ∈ l, ∃ w, Comes a r w s := by
  have h0 : 0 ≤ a.states := by have := ha.ok; simp [A.ok] at this; omega
  unfold A.reach
  rw [mem_cl]
  constructor
  · intro h9
    replace h9 := h9.2
    induction h9 with
    | start h => exact ⟨_, h, [], .nil _⟩
    | @step r s _ hp ih =>
      obtain ⟨q, hq, w, hc⟩ := ih
      obtain ⟨e, he, h2⟩ := pair_in.1 hp
      simp [turned] at h2
      obtain ⟨rfl, rfl⟩ := h2
      obtain ⟨v, hv⟩ := comes_edge ha he
      exact ⟨q, hq, w ++ v, hc.append hv⟩
  · rintro ⟨r, hr, w, hc⟩
    have hg : Goes (a.pairs false (fun _ => true)) l s := by
      have h1 : Goes (a.pairs false (fun _ => true)) l r := .start hr
      clear hr
      induction hc with
      | nil => exact h1
      | @free e w t he hf _ ih => exact ih (.step h1 (pair_in.2 ⟨e, he, by simp [turned]⟩))
      | @byte e b w t he hf hb _ ih => exact ih (.step h1 (pair_in.2 ⟨e, he, by simp [turned]⟩))
    have := goes_in ha hl hg
    exact ⟨by omega, hg⟩
theorem mem_alive (ha : Fit a) {s : Int} : s ∈ a.alive ↔ ∃ w, ∃ t ∈ a.final, Comes a s w t := by
  have h0 : 0 ≤ a.states := by have := ha.ok; simp [A.ok] at this; omega
  unfold A.alive
  rw [mem_cl]
  constructor
  · intro h9
    replace h9 := h9.2
    induction h9 with
    | start h => exact ⟨[], _, h, .nil _⟩
    | @step r s _ hp ih =>
      obtain ⟨w, t, ht, hc⟩ := ih
      obtain ⟨e, he, h2⟩ := pair_in.1 hp
      simp [turned] at h2
      obtain ⟨rfl, rfl⟩ := h2
      obtain ⟨v, hv⟩ := comes_edge ha he
      exact ⟨v ++ w, t, ht, hv.append hc⟩
  · rintro ⟨w, t, ht, hc⟩
    have hg : Goes (a.pairs true (fun _ => true)) a.final s := by
      induction hc with
      | nil => exact .start ht
      | @free e w t he hf _ ih => exact .step (ih ht) (pair_in.2 ⟨e, he, by simp [turned]⟩)
      | @byte e b w t he hf hb _ ih => exact .step (ih ht) (pair_in.2 ⟨e, he, by simp [turned]⟩)
    have hs : 0 ≤ s ∧ s < a.states := by
      cases hg with
      | start h => exact inb_final ha _ h
      | step _ hp =>
        obtain ⟨e, he, h2⟩ := pair_in.1 hp
        simp [turned] at h2
        have := edge_in ha he
        omega
    exact ⟨by omega, hg⟩
theorem mem_live (ha : Fit a) {s : Int} : s ∈ a.live ↔ (∃ r ∈ a.start, ∃ v, Comes a r v s) ∧ ∃ w, ∃ t ∈ a.final, Comes a s w t := by
  unfold A.live
  rw [List.mem_filter, mem_reach ha (inb_start ha)]
  refine and_congr Iff.rfl ?_
  rw [← mem_alive ha, List.any_eq_true]
  simp
theorem live_some (ha : Fit a) : 0 < a.live.length ↔ ∃ w, a.takes w := by
  constructor
  · intro h
    obtain ⟨s, hs⟩ := List.exists_mem_of_length_pos h
    obtain ⟨⟨r, hr, v, hv⟩, w, t, ht, hw⟩ := (mem_live ha).1 hs
    exact ⟨v ++ w, r, hr, t, ht, hv.append hw⟩
  · rintro ⟨w, r, hr, t, ht, hc⟩
    exact List.length_pos_of_mem ((mem_live ha).2 ⟨⟨r, hr, [], .nil _⟩, w, t, ht, hc⟩)
theorem starts_alive (ha : Fit a) : a.start.any (fun s => a.alive.any (fun x => s == x)) = true ↔ ∃ w, a.takes w := by
  rw [List.any_eq_true]
  simp only [List.any_eq_true, beq_iff_eq]
  constructor
  · rintro ⟨s, hs, x, hx, rfl⟩
    obtain ⟨w, t, ht, hc⟩ := (mem_alive ha).1 hx
    exact ⟨w, s, hs, t, ht, hc⟩
  · rintro ⟨w, r, hr, t, ht, hc⟩
    exact ⟨r, hr, r, (mem_alive ha).2 ⟨w, t, ht, hc⟩, rfl⟩

theorem after_reach (ha : Fit a) (w : List UInt8) {s : Int} (h : s ∈ a.after w) : s ∈ a.reach a.start := by
  obtain ⟨r, hr, hc⟩ := (mem_after ha).1 h
  exact (mem_reach ha (inb_start ha)).2 ⟨r, hr, w, hc⟩
end Go.Proofs.Ytakldmbbmefnbaa
