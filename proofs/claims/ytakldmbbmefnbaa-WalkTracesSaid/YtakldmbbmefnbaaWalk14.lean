/- walk.Reach, Alive, Live. -/
import Derived.Test.YtakldmbbmefnbaaWalk13
namespace Go.Proofs.Ytakldmbbmefnbaa
open Go.RowKit Go.Sort Go.Proofs
set_option maxRecDepth 100000
set_option maxHeartbeats 1000000

noncomputable def A.doReach (a : A) (l : List Int) : Except Int (List Int) := if l.all (inB a.states) = true then .ok (a.reach l) else .error 2
theorem reach1_ok (b bs : Nat) (a : A) (vs vf ve vl : Value) (l : List Int) (w : World) (hk : Wk w b a vs vf ve) (ha : Fit a) (hc : w.cell? ⟨bs, 0, none⟩ = some vl) (hl : Ints w w.heap.size vl l) (hll : l.length ≤ 1000000) :
    Calls Try.prog 55 #[pw b, pw bs] w (fun r w' => DoesEnd w w' r (a.doReach l) ∧ Below w.heap.size w w') := by
  have hth := there_ok b a vs vf ve vl l w hk hl hll
  obtain ⟨A0, c, rfl, _⟩ := id hl
  have hlt := World.block_lt_of_cell? _ _ hc
  unfold A.doReach
  cases hin : l.all (inB a.states) with
  | true =>
    rw [hin] at hth
    have hne : needEnd true 2 = .returned (.tuple #[]) := rfl
    rw [hne] at hth
    have hcl := fun W (h : Below w.heap.size w W) => reach_ok b a vs vf ve _ l W (hk.below h) ha (hl.below h h.size) hin hll
    generalize a.reach l = cur at *
    clear hne hin hk hl
    go_enter Try.func55, Try.ntmps55
    go_wp2_with first
      | (go_at_call 56; refine hth.mono ?_; rintro e w1 ⟨rfl, d1⟩; have hc1 := (d1.cell (p := ⟨bs, 0, none⟩) hlt).trans hc)
      | (go_at_call 57; refine (hcl _ d1).mono ?_; rintro e w2 ⟨v2, rfl, ho2, d2⟩; obtain ⟨A2, c2, rfl, hle2⟩ := ho2.form)
    go_ret
    exact ⟨⟨_, rfl, ho2.lower d1.size⟩, below_next d1 d2⟩
  | false =>
    rw [hin] at hth
    have hne : needEnd false 2 = .panicked (errPanic 2) := rfl
    rw [hne] at hth
    clear hne hin hk hl
    go_enter Try.func55, Try.ntmps55
    go_wp2_with (go_at_call 56; refine hth.mono ?_; rintro e w1 ⟨rfl, d1⟩)
    exact ⟨rfl, rfl, d1⟩

theorem Reach_ok (a : A) (vs vf ve vl : Value) (l : List Int) (w : World) (hfa : FaAt w w.heap.size a vs vf ve) (hs : Small a) (hl : Ints w w.heap.size vl l) (hll : l.length ≤ 1000000) :
    Calls Try.prog 17 #[vA a vs vf ve, vl] w (fun r w' => IntsEnd w w' r (if a.ok = true then a.doReach l else .error 260) ∧ Below w.heap.size w w') := by
  obtain ⟨As, cs, rfl, _⟩ := id hfa.s
  obtain ⟨Af, cf, rfl, _⟩ := id hfa.f
  obtain ⟨Ae, ce, rfl, _⟩ := id hfa.e
  obtain ⟨A0, c, rfl, _⟩ := id hl
  obtain ⟨W1, hW1⟩ : ∃ W1, w.alloc (.cells #[.int .i64 a.states, .slice As a.start.length cs, .slice Af a.final.length cf, .slice Ae a.edges.length ce] 25) = W1 := ⟨_, rfl⟩
  obtain ⟨W2, hW2⟩ : ∃ W2, W1.alloc (.cells #[.slice A0 l.length c] 22) = W2 := ⟨_, rfl⟩
  have d1 : Below w.heap.size w W1 := hW1 ▸ alloc1 w _
  have d2 : Below W1.heap.size W1 W2 := hW2 ▸ alloc1 W1 _
  have dw := below_next d1 d2
  have n1 : ∀ j, W1.cell? ⟨w.heap.size, j, none⟩ = _ := fun j => hW1 ▸ cell_new w _ _ j
  have hlt : w.heap.size < W1.heap.size := by rw [← hW1]; simp
  have e0 := (d2.cell (p := ⟨w.heap.size, 0, none⟩) hlt).trans (n1 0)
  have e1 := (d2.cell (p := ⟨w.heap.size, 1, none⟩) hlt).trans (n1 1)
  have e2 := (d2.cell (p := ⟨w.heap.size, 2, none⟩) hlt).trans (n1 2)
  have e3 := (d2.cell (p := ⟨w.heap.size, 3, none⟩) hlt).trans (n1 3)
  simp only [List.getElem?_toArray, List.getElem?_cons_zero, List.getElem?_cons_succ] at e0 e1 e2 e3
  have q1 : W2.cell? ⟨W1.heap.size, 0, none⟩ = some (.slice A0 l.length c) := by rw [← hW2, cell_new]; rfl
  have htr := tries_ints_end a _ _ _ 55 #[pw W1.heap.size] w W2 dw.size Try.call55 (hfa.below dw dw.size) hs.short (a.doReach l)
    (fun hok W b hW hk => reach1_ok b W1.heap.size a _ _ _ _ l W hk (hs.fit hok) ((hW.cell (World.block_lt_of_cell? _ _ q1)).trans q1) (hl.below (below_next dw hW) (below_next dw hW).size) hll)
  unfold vA at htr ⊢
  generalize hout : (if a.ok = true then a.doReach l else .error 260) = out at *
  clear hfa hl n1 hlt hout
  go_enter Try.func17, Try.ntmps17
  go_wp2_with (go_at_call 42; refine htr.mono ?_; rintro r w3 ⟨hE, d3⟩; obtain ⟨A5, n5, c5, e5, rfl⟩ := hE.form)
  refine bodyPost_ret (results_tmp2 rfl _ _ _) rfl ?_
  exact ⟨hE, below_next dw d3⟩

theorem alive1_ok (b : Nat) (a : A) (vs vf ve : Value) (w : World) (hk : Wk w b a vs vf ve) (ha : Fit a) :
    Calls Try.prog 45 #[pw b] w (fun r w' => DoesEnd w w' r (.ok a.alive) ∧ Below w.heap.size w w') := by
  have hal := alive_ok b a vs vf ve w hk ha
  clear hk
  unfold DoesEnd
  generalize a.alive = cur at *
  go_enter Try.func45, Try.ntmps45
  go_wp2_with (go_at_call 46; refine hal.mono ?_; rintro e w1 ⟨v1, rfl, ho1, hb1⟩; obtain ⟨A1, c1, rfl, hle1⟩ := ho1.form)
  go_ret
  exact ⟨⟨_, rfl, ho1⟩, hb1⟩

theorem Alive_ok (a : A) (vs vf ve : Value) (w : World) (hfa : FaAt w w.heap.size a vs vf ve) (hs : Small a) :
    Calls Try.prog 11 #[vA a vs vf ve] w (fun r w' => IntsEnd w w' r (if a.ok = true then .ok a.alive else .error 260) ∧ Below w.heap.size w w') := by
  obtain ⟨As, cs, rfl, _⟩ := id hfa.s
  obtain ⟨Af, cf, rfl, _⟩ := id hfa.f
  obtain ⟨Ae, ce, rfl, _⟩ := id hfa.e
  obtain ⟨W1, hW1⟩ : ∃ W1, w.alloc (.cells #[.int .i64 a.states, .slice As a.start.length cs, .slice Af a.final.length cf, .slice Ae a.edges.length ce] 25) = W1 := ⟨_, rfl⟩
  have d1 : Below w.heap.size w W1 := hW1 ▸ alloc1 w _
  have n1 : ∀ j, W1.cell? ⟨w.heap.size, j, none⟩ = _ := fun j => hW1 ▸ cell_new w _ _ j
  have e0 := n1 0; have e1 := n1 1; have e2 := n1 2; have e3 := n1 3
  simp only [List.getElem?_toArray, List.getElem?_cons_zero, List.getElem?_cons_succ] at e0 e1 e2 e3
  have htr := tries_ints_end a _ _ _ 45 #[] w W1 d1.size Try.call45 (hfa.below d1 d1.size) hs.short (.ok a.alive)
    (fun hok W b hW hk => alive1_ok b a _ _ _ W hk (hs.fit hok))
  unfold vA at htr ⊢
  generalize hout : (if a.ok = true then Except.ok a.alive else Except.error (260 : Int)) = out at *
  clear hfa n1 hout
  go_enter Try.func11, Try.ntmps11
  go_wp2_with (go_at_call 42; refine htr.mono ?_; rintro r w3 ⟨hE, d3⟩; obtain ⟨A5, n5, c5, e5, rfl⟩ := hE.form)
  refine bodyPost_ret (results_tmp2 rfl _ _ _) rfl ?_
  exact ⟨hE, below_next d1 d3⟩

theorem live1_ok (b : Nat) (a : A) (vs vf ve : Value) (w : World) (hk : Wk w b a vs vf ve) (ha : Fit a) :
    Calls Try.prog 43 #[pw b] w (fun r w' => DoesEnd w w' r (.ok a.live) ∧ Below w.heap.size w w') := by
  have hal := live_ok b a vs vf ve w hk ha
  clear hk
  unfold DoesEnd
  generalize a.live = cur at *
  go_enter Try.func43, Try.ntmps43
  go_wp2_with (go_at_call 44; refine hal.mono ?_; rintro e w1 ⟨v1, rfl, ho1, hb1⟩; obtain ⟨A1, c1, rfl, hle1⟩ := ho1.form)
  go_ret
  exact ⟨⟨_, rfl, ho1⟩, hb1⟩

theorem Live_ok (a : A) (vs vf ve : Value) (w : World) (hfa : FaAt w w.heap.size a vs vf ve) (hs : Small a) :
    Calls Try.prog 10 #[vA a vs vf ve] w (fun r w' => IntsEnd w w' r (if a.ok = true then .ok a.live else .error 260) ∧ Below w.heap.size w w') := by
  obtain ⟨As, cs, rfl, _⟩ := id hfa.s
  obtain ⟨Af, cf, rfl, _⟩ := id hfa.f
  obtain ⟨Ae, ce, rfl, _⟩ := id hfa.e
  obtain ⟨W1, hW1⟩ : ∃ W1, w.alloc (.cells #[.int .i64 a.states, .slice As a.start.length cs, .slice Af a.final.length cf, .slice Ae a.edges.length ce] 25) = W1 := ⟨_, rfl⟩
  have d1 : Below w.heap.size w W1 := hW1 ▸ alloc1 w _
  have n1 : ∀ j, W1.cell? ⟨w.heap.size, j, none⟩ = _ := fun j => hW1 ▸ cell_new w _ _ j
  have e0 := n1 0; have e1 := n1 1; have e2 := n1 2; have e3 := n1 3
  simp only [List.getElem?_toArray, List.getElem?_cons_zero, List.getElem?_cons_succ] at e0 e1 e2 e3
  have htr := tries_ints_end a _ _ _ 43 #[] w W1 d1.size Try.call43 (hfa.below d1 d1.size) hs.short (.ok a.live)
    (fun hok W b hW hk => live1_ok b a _ _ _ W hk (hs.fit hok))
  unfold vA at htr ⊢
  generalize hout : (if a.ok = true then Except.ok a.live else Except.error (260 : Int)) = out at *
  clear hfa n1 hout
  go_enter Try.func10, Try.ntmps10
  go_wp2_with (go_at_call 42; refine htr.mono ?_; rintro r w3 ⟨hE, d3⟩; obtain ⟨A5, n5, c5, e5, rfl⟩ := hE.form)
  refine bodyPost_ret (results_tmp2 rfl _ _ _) rfl ?_
  exact ⟨hE, below_next d1 d3⟩
end Go.Proofs.Ytakldmbbmefnbaa
