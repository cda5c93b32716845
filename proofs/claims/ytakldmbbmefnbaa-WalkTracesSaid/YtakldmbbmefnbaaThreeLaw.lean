/- What the chapter's automaton does; no program in sight. -/
import Derived.Test.YtakldmbbmefnbaaThree
import Derived.Test.YtakldmbbmefnbaaReaches
namespace Go.Proofs.Ytakldmbbmefnbaa

theorem cl_eq {n : Nat} {ps : List (Int × Int)} {l ys : List Int} (hy : Strict ys) (h : ∀ s, s ∈ ys ↔ (0 ≤ s ∧ s < n) ∧ Goes ps l s) : cl n ps l = ys :=
  strict_ext (cl_strict ..) hy (fun s => mem_cl.trans (h s).symm)
theorem strict012 : Strict [0, 1, 2] := by unfold Strict; simp
theorem cl_all {ps : List (Int × Int)} {l : List Int} (h0 : Goes ps l 0) (h1 : Goes ps l 1) (h2 : Goes ps l 2) : cl 3 ps l = [0, 1, 2] := by
  refine cl_eq strict012 fun s => ?_
  constructor
  · intro h
    simp at h
    rcases h with rfl | rfl | rfl
    · exact ⟨by omega, h0⟩
    · exact ⟨by omega, h1⟩
    · exact ⟨by omega, h2⟩
  · rintro ⟨h, _⟩
    have : s = 0 ∨ s = 1 ∨ s = 2 := by omega
    simpa using this
theorem three_free : three.pairs false (fun e => e.free) = [(0, 1), (2, 0)] := rfl
theorem three_pairs : three.pairs false (fun _ => true) = [(0, 1), (1, 2), (2, 0), (2, 2)] := rfl
theorem three_back : three.pairs true (fun _ => true) = [(1, 0), (2, 1), (0, 2), (2, 2)] := rfl
theorem three_clo {l : List Int} (h : 2 ∈ l) : three.clo l = [0, 1, 2] := by
  unfold A.clo
  rw [three_free]
  have h2 : Goes [(0, 1), (2, 0)] l 2 := .start h
  have h0 : Goes [(0, 1), (2, 0)] l 0 := .step h2 (by simp)
  exact cl_all h0 (.step h0 (by simp)) h2
theorem three_clo0 : three.clo [0] = [0, 1] := by
  unfold A.clo
  rw [three_free]
  have h0 : Goes [(0, 1), (2, 0)] [0] 0 := .start (by simp)
  refine cl_eq (by unfold Strict; simp) fun s => ?_
  constructor
  · intro h
    simp at h
    rcases h with rfl | rfl
    · exact ⟨by simp [three], h0⟩
    · exact ⟨by simp [three], .step h0 (by simp)⟩
  · rintro ⟨_, h⟩
    induction h with
    | start h => simp at h; simp [h]
    | step _ hp ih =>
      simp at hp ih
      simp
      omega
theorem three_step0 : three.step [0] 97 = [0, 1, 2] := by
  unfold A.step
  rw [three_clo0]
  exact three_clo (by simp [three, leads, sAB, sC, s0, BSet.has, BSet.word])
theorem three_step1 : three.step [0, 1, 2] 97 = [0, 1, 2] ∧ three.step [0, 1, 2] 99 = [0, 1, 2] ∧ three.step [0, 1, 2] 98 = [0, 1, 2] := by
  unfold A.step
  rw [three_clo (l := [0, 1, 2]) (by simp)]
  exact ⟨three_clo (by simp [three, leads, sAB, sC, s0, BSet.has, BSet.word]), three_clo (by simp [three, leads, sAB, sC, s0, BSet.has, BSet.word]), three_clo (by simp [three, leads, sAB, sC, s0, BSet.has, BSet.word])⟩
theorem three_step01 : three.step [0, 1] 97 = [0, 1, 2] := by
  unfold A.step
  have : three.clo [0, 1] = [0, 1] := by
    unfold A.clo
    rw [three_free]
    have h0 : Goes [(0, 1), (2, 0)] [0, 1] 0 := .start (by simp)
    refine cl_eq (by unfold Strict; simp) fun s => ?_
    constructor
    · intro h
      simp at h
      rcases h with rfl | rfl
      · exact ⟨by simp [three], h0⟩
      · exact ⟨by simp [three], .step h0 (by simp)⟩
    · rintro ⟨_, h⟩
      induction h with
      | start h => exact h
      | step _ hp ih =>
        simp at hp ih
        simp
        omega
  rw [this]
  exact three_clo (by simp [three, leads, sAB, sC, s0, BSet.has, BSet.word])
theorem three_after0 : three.after [] = [0, 1] := three_clo0
theorem three_after1 : three.after [97] = [0, 1, 2] := by
  show three.step (three.clo [0]) 97 = _
  rw [three_clo0, three_step01]
theorem three_after3 : three.after [97, 99, 98] = [0, 1, 2] := by
  show three.step (three.step (three.step (three.clo [0]) 97) 99) 98 = _
  rw [three_clo0, three_step01, three_step1.2.1, three_step1.2.2]
theorem three_ends0 : three.ends (three.after []) = false := by rw [three_after0]; rfl
theorem three_ends3 : three.ends (three.after [97, 99, 98]) = true := by rw [three_after3]; rfl
theorem three_ok' : three.ok = true := by decide
theorem three_fit : Fit three := ⟨three_ok', by simp [three], by simp [three], by simp [three], by simp [three]⟩
theorem three_reach1 : three.reach [1] = [0, 1, 2] := by
  unfold A.reach
  rw [three_pairs]
  have h1 : Goes [(0, 1), (1, 2), (2, 0), (2, 2)] [1] 1 := .start (by simp)
  have h2 : Goes [(0, 1), (1, 2), (2, 0), (2, 2)] [1] 2 := .step h1 (by simp)
  exact cl_all (.step h2 (by simp)) h1 h2
theorem three_reach0 : three.reach [0] = [0, 1, 2] := by
  unfold A.reach
  rw [three_pairs]
  have h0 : Goes [(0, 1), (1, 2), (2, 0), (2, 2)] [0] 0 := .start (by simp)
  have h1 : Goes [(0, 1), (1, 2), (2, 0), (2, 2)] [0] 1 := .step h0 (by simp)
  exact cl_all h0 h1 (.step h1 (by simp))
theorem three_alive : three.alive = [0, 1, 2] := by
  unfold A.alive
  rw [three_back]
  have h2 : Goes [(1, 0), (2, 1), (0, 2), (2, 2)] three.final 2 := .start (by simp [three])
  have h1 : Goes [(1, 0), (2, 1), (0, 2), (2, 2)] three.final 1 := .step h2 (by simp)
  exact cl_all (.step h1 (by simp)) h1 h2
theorem three_live : three.live = [0, 1, 2] := by
  unfold A.live
  rw [three_alive]
  show List.filter _ (three.reach [0]) = _
  rw [three_reach0]
  rfl
theorem three_first {word : List UInt8} (h : IsFirst three 3 word) : word = [97] := by
  have h1 : three.takes [97] := by rw [← ends_after three_fit, three_after1]; rfl
  have h0 : ¬ three.takes [] := by rw [← ends_after three_fit, three_ends0]; simp
  have hl := (h.least [97] h1).1
  match word, h, hl with
  | [], h, _ => exact absurd h.takes h0
  | [b], h, _ =>
    have hb := (h.least [97] h1).2 rfl 0 (by simp) (by simp) rfl
    obtain ⟨r, hr, t, ht, hc⟩ := h.takes
    obtain ⟨e, he, h2, h3, _, _⟩ := hc.one rfl
    simp [three] at he
    simp at hb
    have hb2 : b.toNat < 256 := b.toNat_lt
    have hall : ∀ n : Nat, n < 97 → (sAB.has n = false ∧ sC.has n = false) := by decide
    have := hall b.toNat
    have h97 : b.toNat = 97 := by
      rcases he with rfl | rfl | rfl | rfl
      · simp at h2
      · simp at h3
        refine Classical.byContradiction fun hn => ?_
        have := (hall b.toNat (by omega)).1
        rw [this] at h3; cases h3
      · simp at h2
      · simp at h3
        refine Classical.byContradiction fun hn => ?_
        have := (hall b.toNat (by omega)).2
        rw [this] at h3; cases h3
    congr 1
    exact UInt8.toNat_inj.1 h97
  | b :: c :: r, _, hl => simp at hl
end Go.Proofs.Ytakldmbbmefnbaa
