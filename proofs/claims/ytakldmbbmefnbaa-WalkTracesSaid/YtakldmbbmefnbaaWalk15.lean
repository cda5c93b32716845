/- walk.Step. -/
import Derived.Test.YtakldmbbmefnbaaWalk14
namespace Go.Proofs.Ytakldmbbmefnbaa
open Go.RowKit Go.Sort Go.Proofs
set_option maxRecDepth 100000
set_option maxHeartbeats 1000000

noncomputable def A.doStep (a : A) (l : List Int) (b : Nat) : Except Int (List Int) := if l.all (inB a.states) = true then .ok (a.step l b) else .error 2

theorem stepf_ok (b bs bb : Nat) (a : A) (vs vf ve vl : Value) (l : List Int) (by_ : Nat) (hby : by_ < 256) (w : World) (hk : Wk w b a vs vf ve) (ha : Fit a) (hc : w.cell? ⟨bs, 0, none⟩ = some vl) (hcb : w.cell? ⟨bb, 0, none⟩ = some (.int .u8 by_)) (hl : Ints w w.heap.size vl l) (hll : l.length ≤ 1000000) :
    Calls Try.prog 59 #[pw b, pw bs, pw bb] w (fun r w' => DoesEnd w w' r (a.doStep l by_) ∧ Below w.heap.size w w') := by
  have hth := there_ok b a vs vf ve vl l w hk hl hll
  obtain ⟨A0, c, rfl, _⟩ := id hl
  have hlt := World.block_lt_of_cell? _ _ hc
  have hltb := World.block_lt_of_cell? _ _ hcb
  unfold A.doStep
  cases hin : l.all (inB a.states) with
  | true =>
    rw [hin] at hth
    have hne : needEnd true 2 = .returned (.tuple #[]) := rfl
    rw [hne] at hth
    have hcl := fun W (h : Below w.heap.size w W) => step_ok b a vs vf ve _ l by_ W (hk.below h) ha (hl.below h h.size) hin hll hby
    generalize a.step l by_ = cur at *
    clear hne hin hk hl
    go_enter Try.func59, Try.ntmps59
    go_wp2_with first
      | (go_at_call 56; refine hth.mono ?_; rintro e w1 ⟨rfl, d1⟩; have hc1 := (d1.cell (p := ⟨bs, 0, none⟩) hlt).trans hc; have hc2 := (d1.cell (p := ⟨bb, 0, none⟩) hltb).trans hcb)
      | (go_at_call 60; refine (hcl _ d1).mono ?_; rintro e w2 ⟨v2, rfl, ho2, d2⟩; obtain ⟨A2, c2, rfl, hle2⟩ := ho2.form)
    go_ret
    exact ⟨⟨_, rfl, ho2.lower d1.size⟩, below_next d1 d2⟩
  | false =>
    rw [hin] at hth
    have hne : needEnd false 2 = .panicked (errPanic 2) := rfl
    rw [hne] at hth
    clear hne hin hk hl
    go_enter Try.func59, Try.ntmps59
    go_wp2_with (go_at_call 56; refine hth.mono ?_; rintro e w1 ⟨rfl, d1⟩)
    exact ⟨rfl, rfl, d1⟩

theorem Step_ok (a : A) (vs vf ve vl : Value) (l : List Int) (by_ : Nat) (hby : by_ < 256) (w : World) (hfa : FaAt w w.heap.size a vs vf ve) (hs : Small a) (hl : Ints w w.heap.size vl l) (hll : l.length ≤ 1000000) :
    Calls Try.prog 19 #[vA a vs vf ve, .int .u8 by_, vl] w (fun r w' => IntsEnd w w' r (if a.ok = true then a.doStep l by_ else .error 260) ∧ Below w.heap.size w w') := by
  obtain ⟨As, cs, rfl, _⟩ := id hfa.s
  obtain ⟨Af, cf, rfl, _⟩ := id hfa.f
  obtain ⟨Ae, ce, rfl, _⟩ := id hfa.e
  obtain ⟨A0, c, rfl, _⟩ := id hl
  obtain ⟨W1, hW1⟩ : ∃ W1, w.alloc (.cells #[.int .i64 a.states, .slice As a.start.length cs, .slice Af a.final.length cf, .slice Ae a.edges.length ce] 25) = W1 := ⟨_, rfl⟩
  obtain ⟨W2, hW2⟩ : ∃ W2, W1.alloc (.cells #[.int .u8 by_] 5) = W2 := ⟨_, rfl⟩
  obtain ⟨W3, hW3⟩ : ∃ W3, W2.alloc (.cells #[.slice A0 l.length c] 22) = W3 := ⟨_, rfl⟩
  have d1 : Below w.heap.size w W1 := hW1 ▸ alloc1 w _
  have d2 : Below W1.heap.size W1 W2 := hW2 ▸ alloc1 W1 _
  have d3 : Below W2.heap.size W2 W3 := hW3 ▸ alloc1 W2 _
  have d13 := below_next d2 d3
  have dw := below_next d1 d13
  have n1 : ∀ j, W1.cell? ⟨w.heap.size, j, none⟩ = _ := fun j => hW1 ▸ cell_new w _ _ j
  have hlt : w.heap.size < W1.heap.size := by rw [← hW1]; simp
  have hlt2 : W1.heap.size < W2.heap.size := by rw [← hW2]; simp
  have e0 := (d13.cell (p := ⟨w.heap.size, 0, none⟩) hlt).trans (n1 0)
  have e1 := (d13.cell (p := ⟨w.heap.size, 1, none⟩) hlt).trans (n1 1)
  have e2 := (d13.cell (p := ⟨w.heap.size, 2, none⟩) hlt).trans (n1 2)
  have e3 := (d13.cell (p := ⟨w.heap.size, 3, none⟩) hlt).trans (n1 3)
  simp only [List.getElem?_toArray, List.getElem?_cons_zero, List.getElem?_cons_succ] at e0 e1 e2 e3
  have q1 : W3.cell? ⟨W2.heap.size, 0, none⟩ = some (.slice A0 l.length c) := by rw [← hW3, cell_new]; rfl
  have q2 : W3.cell? ⟨W1.heap.size, 0, none⟩ = some (.int .u8 by_) := by rw [d3.cell hlt2, ← hW2, cell_new]; rfl
  have htr := tries_ints_end a _ _ _ 59 #[pw W2.heap.size, pw W1.heap.size] w W3 dw.size Try.call59 (hfa.below dw dw.size) hs.short (a.doStep l by_)
    (fun hok W b hW hk => stepf_ok b W2.heap.size W1.heap.size a _ _ _ _ l by_ hby W hk (hs.fit hok) ((hW.cell (World.block_lt_of_cell? _ _ q1)).trans q1) ((hW.cell (World.block_lt_of_cell? _ _ q2)).trans q2) (hl.below (below_next dw hW) (below_next dw hW).size) hll)
  unfold vA at htr ⊢
  generalize hout : (if a.ok = true then a.doStep l by_ else .error 260) = out at *
  clear hfa hl n1 hlt hlt2 hout
  go_enter Try.func19, Try.ntmps19
  go_wp2_with (go_at_call 42; refine htr.mono ?_; rintro r w3 ⟨hE, d4⟩; obtain ⟨A5, n5, c5, e5, rfl⟩ := hE.form)
  refine bodyPost_ret (results_tmp2 rfl _ _ _) rfl ?_
  exact ⟨hE, below_next dw d4⟩
end Go.Proofs.Ytakldmbbmefnbaa
