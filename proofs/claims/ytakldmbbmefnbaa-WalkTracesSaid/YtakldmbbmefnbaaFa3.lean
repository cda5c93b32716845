/- fa.Check: which automata may be. -/
import Derived.Test.YtakldmbbmefnbaaFa2
import Derived.Outline
namespace Go.Proofs.Ytakldmbbmefnbaa
open Go.RowKit

/-- OK, or ErrFa. -/
def faErr (ok : Bool) : Int := if ok then 0 else 260

structure Short (a : A) : Prop where
  s : a.start.length ≤ 1000000
  f : a.final.length ≤ 1000000
  e : a.edges.length ≤ 1000000

set_option maxRecDepth 100000 in
set_option maxHeartbeats 1000000 in
theorem check_ok (a : A) (vs vf ve : Value) (w : World) (h : FaAt w w.heap.size a vs vf ve) (hl : Short a) :
    Calls Try.prog 64 #[vA a vs vf ve] w (fun r w' => r = .returned (.int .i64 (faErr a.ok)) ∧ Below w.heap.size w w') := by
  obtain ⟨l1, l2, l3⟩ := hl
  have hs := h.s; have hf := h.f; have he := h.e
  clear h
  have hw1 := alloc1 w (.cells #[.int .i64 a.states, vs, vf, ve] 25)
  have hth := check1 a.states w.heap.size _ (by simp) (cell_new w #[.int .i64 a.states, vs, vf, ve] 25 0)
  obtain ⟨W1, hW1⟩ : ∃ W1, w.alloc (.cells #[.int .i64 a.states, vs, vf, ve] 25) = W1 := ⟨_, rfl⟩
  rw [hW1] at hw1 hth
  have hsz1 : W1.heap.size = w.heap.size + 1 := by rw [← hW1]; simp
  have hw2 := alloc1 W1 (.cells #[.func (.func 104) #[] #[.pointer (some ⟨w.heap.size, 0, none⟩)]] 36)
  have hfc := cell_new W1 #[.func (.func 104) #[] #[.pointer (some ⟨w.heap.size, 0, none⟩)]] 36 0
  have hmay := check2 a.states _ W1.heap.size _ (by simp) hfc (hth.below hw2)
  have hth2 := hth.below hw2
  rw [hsz1] at hmay
  have hcell : ∀ W, Below (W1.alloc (.cells #[.func (.func 104) #[] #[.pointer (some ⟨w.heap.size, 0, none⟩)]] 36)).heap.size (W1.alloc (.cells #[.func (.func 104) #[] #[.pointer (some ⟨w.heap.size, 0, none⟩)]] 36)) W →
      W.cell? ⟨w.heap.size, 1, none⟩ = some vs ∧ W.cell? ⟨w.heap.size, 2, none⟩ = some vf ∧ W.cell? ⟨w.heap.size, 3, none⟩ = some ve ∧ W.cell? ⟨w.heap.size + 1, 0, none⟩ = some (.func (.func 104) #[] #[.pointer (some ⟨w.heap.size, 0, none⟩)]) := by
    intro W hB
    have g : ∀ j, W.cell? ⟨w.heap.size, j, none⟩ = W1.cell? ⟨w.heap.size, j, none⟩ := fun j => ((below_next hw2 hB).cell (by simp [hsz1]))
    refine ⟨?_, ?_, ?_, ?_⟩
    · rw [g, ← hW1, cell_new]; rfl
    · rw [g, ← hW1, cell_new]; rfl
    · rw [g, ← hW1, cell_new]; rfl
    · rw [hB.cell (by simp [hsz1]), ← hsz1, cell_new]; rfl
  have hbw := below_next hw1 hw2
  subst hW1
  obtain ⟨W2, hW2⟩ : ∃ W2, (w.alloc (.cells #[.int .i64 a.states, vs, vf, ve] 25)).alloc (.cells #[.func (.func 104) #[] #[.pointer (some ⟨w.heap.size, 0, none⟩)]] 36) = W2 := ⟨_, rfl⟩
  rw [hW2] at hmay hth2 hcell hbw
  have hcs := fun W (hB : Below W2.heap.size W2 W) => all_int vs _ a.start (fun _ => True) _ W (hs.below (hbw.trans (hB.mono hbw.size)) (Nat.le_trans hbw.size hB.size)) (hth2.below hB) (fun _ _ => trivial) l1
  have hcf := fun W (hB : Below W2.heap.size W2 W) => all_int vf _ a.final (fun _ => True) _ W (hf.below (hbw.trans (hB.mono hbw.size)) (Nat.le_trans hbw.size hB.size)) (hth2.below hB) (fun _ _ => trivial) l2
  have hce := fun W (hB : Below W2.heap.size W2 W) => all_edge ve _ a.edges (fun _ => True) _ W (he.below (hbw.trans (hB.mono hbw.size)) (Nat.le_trans hbw.size hB.size)) (hmay.below hB) (fun _ _ => trivial) l3
  clear hth hmay hth2 hw1 hw2 hfc hsz1 hs hf he
  subst hW2
  unfold vA
  by_cases h0 : a.states < 0
  · have hm : (260 : Int) = faErr a.ok := by
      have : a.ok = false := by simp [A.ok]; omega
      rw [this]; rfl
    have HM := Lib.hid hm
    clear hm hcs hcf hce hcell
    go_enter Try.func64, Try.ntmps64
    go_wp2_with (first
      | (go_at_call 106; refine (hcs _ (Below.refl _ _)).mono ?_; rintro e w1 ⟨rfl, hb1⟩; have hc1 := hcell w1 hb1; obtain ⟨c0, c1, c2, c3⟩ := hc1)
      | (go_at_call 106; refine (hcf _ hb1).mono ?_; rintro e w2 ⟨rfl, hb2⟩; have hb3 := below_next hb1 hb2; have hc1 := hcell w2 hb3; obtain ⟨d0, d1, d2, d3⟩ := hc1)
      | (go_at_call 107; refine (hce _ hb3).mono ?_; rintro e w4 ⟨rfl, hb4⟩; have hb5 := below_next hb3 hb4))
    go_ret
    exact ⟨congrArg (fun z => Ending.returned (.int .i64 z)) HM.out, hbw⟩
  · have hz : decide (0 ≤ a.states) = true := by simp; omega
    cases h1 : a.start.all (inB a.states) with
    | false =>
      have hm : (260 : Int) = faErr a.ok := by simp [A.ok, h1, faErr]
      have HM := Lib.hid hm
      rw [h1] at hcs
      clear hm h1 hz hcf hce
      go_enter Try.func64, Try.ntmps64
      go_wp2_with (first
        | (go_at_call 106; refine (hcs _ (Below.refl _ _)).mono ?_; rintro e w1 ⟨rfl, hb1⟩; have hc1 := hcell w1 hb1; obtain ⟨c0, c1, c2, c3⟩ := hc1)
        | (go_at_call 106; refine (hcf _ hb1).mono ?_; rintro e w2 ⟨rfl, hb2⟩; have hb3 := below_next hb1 hb2; have hc1 := hcell w2 hb3; obtain ⟨d0, d1, d2, d3⟩ := hc1)
        | (go_at_call 107; refine (hce _ hb3).mono ?_; rintro e w4 ⟨rfl, hb4⟩; have hb5 := below_next hb3 hb4))
      go_ret
      exact ⟨congrArg (fun z => Ending.returned (.int .i64 z)) HM.out, below_next hbw hb1⟩
    | true =>
      rw [h1] at hcs
      cases h2 : a.final.all (inB a.states) with
      | false =>
        have hm : (260 : Int) = faErr a.ok := by simp [A.ok, h2, faErr]
        have HM := Lib.hid hm
        rw [h2] at hcf
        clear hm h1 h2 hz hce
        go_enter Try.func64, Try.ntmps64
        go_wp2_with (first
          | (go_at_call 106; refine (hcs _ (Below.refl _ _)).mono ?_; rintro e w1 ⟨rfl, hb1⟩; have hc1 := hcell w1 hb1; obtain ⟨c0, c1, c2, c3⟩ := hc1)
          | (go_at_call 106; refine (hcf _ hb1).mono ?_; rintro e w2 ⟨rfl, hb2⟩; have hb3 := below_next hb1 hb2; have hc1 := hcell w2 hb3; obtain ⟨d0, d1, d2, d3⟩ := hc1)
          | (go_at_call 107; refine (hce _ hb3).mono ?_; rintro e w4 ⟨rfl, hb4⟩; have hb5 := below_next hb3 hb4))
        go_ret
        exact ⟨congrArg (fun z => Ending.returned (.int .i64 z)) HM.out, below_next hbw hb3⟩
      | true =>
        rw [h2] at hcf
        cases h3 : a.edges.all (mayE a.states) with
        | false =>
          have hm : (260 : Int) = faErr a.ok := by simp [A.ok, h3, faErr]
          have HM := Lib.hid hm
          rw [h3] at hce
          clear hm h1 h2 h3 hz
          go_enter Try.func64, Try.ntmps64
          go_wp2_with (first
            | (go_at_call 106; refine (hcs _ (Below.refl _ _)).mono ?_; rintro e w1 ⟨rfl, hb1⟩; have hc1 := hcell w1 hb1; obtain ⟨c0, c1, c2, c3⟩ := hc1)
            | (go_at_call 106; refine (hcf _ hb1).mono ?_; rintro e w2 ⟨rfl, hb2⟩; have hb3 := below_next hb1 hb2; have hc1 := hcell w2 hb3; obtain ⟨d0, d1, d2, d3⟩ := hc1)
            | (go_at_call 107; refine (hce _ hb3).mono ?_; rintro e w4 ⟨rfl, hb4⟩; have hb5 := below_next hb3 hb4))
          go_ret
          exact ⟨congrArg (fun z => Ending.returned (.int .i64 z)) HM.out, below_next hbw hb5⟩
        | true =>
          have hm : (0 : Int) = faErr a.ok := by simp [A.ok, h1, h2, h3, faErr]; omega
          have HM := Lib.hid hm
          rw [h3] at hce
          clear hm h1 h2 h3 hz
          go_enter Try.func64, Try.ntmps64
          go_wp2_with (first
            | (go_at_call 106; refine (hcs _ (Below.refl _ _)).mono ?_; rintro e w1 ⟨rfl, hb1⟩; have hc1 := hcell w1 hb1; obtain ⟨c0, c1, c2, c3⟩ := hc1)
            | (go_at_call 106; refine (hcf _ hb1).mono ?_; rintro e w2 ⟨rfl, hb2⟩; have hb3 := below_next hb1 hb2; have hc1 := hcell w2 hb3; obtain ⟨d0, d1, d2, d3⟩ := hc1)
            | (go_at_call 107; refine (hce _ hb3).mono ?_; rintro e w4 ⟨rfl, hb4⟩; have hb5 := below_next hb3 hb4))
          go_ret
          exact ⟨congrArg (fun z => Ending.returned (.int .i64 z)) HM.out, below_next hbw hb5⟩
end Go.Proofs.Ytakldmbbmefnbaa
