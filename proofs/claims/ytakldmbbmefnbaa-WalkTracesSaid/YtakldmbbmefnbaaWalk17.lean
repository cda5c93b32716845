/- walk.First. -/
import Derived.Test.YtakldmbbmefnbaaWalk16
namespace Go.Proofs.Ytakldmbbmefnbaa
open Go.RowKit Go.Sort Go.Proofs
set_option maxRecDepth 100000
set_option maxHeartbeats 1000000

theorem First_ok (a : A) (vs vf ve : Value) (w : World) (hfa : FaAt w w.heap.size a vs vf ve) (hs : Small a) :
    Calls Try.prog 9 #[vA a vs vf ve] w (fun r w' => FirstOut a r ∧ Below w.heap.size w w') := by
  obtain ⟨As, cs, rfl, _⟩ := id hfa.s
  obtain ⟨Af, cf, rfl, _⟩ := id hfa.f
  obtain ⟨Ae, ce, rfl, _⟩ := id hfa.e
  obtain ⟨W1, hW1⟩ : ∃ W1, w.alloc (.cells #[.int .i64 a.states, .slice As a.start.length cs, .slice Af a.final.length cf, .slice Ae a.edges.length ce] 25) = W1 := ⟨_, rfl⟩
  have d1 : Below w.heap.size w W1 := hW1 ▸ alloc1 w _
  have n1 : ∀ j, W1.cell? ⟨w.heap.size, j, none⟩ = _ := fun j => hW1 ▸ cell_new w _ _ j
  have e0 := n1 0; have e1 := n1 1; have e2 := n1 2; have e3 := n1 3
  simp only [List.getElem?_toArray, List.getElem?_cons_zero, List.getElem?_cons_succ] at e0 e1 e2 e3
  have htr := tries_strs a _ _ _ 40 #[] W1 Try.call40 (hfa.below d1 d1.size) hs.short
    (fun r _ => FirstEnd a r)
    (fun r W h => by
      rcases h with ⟨word, rfl, _⟩ | ⟨rfl, _⟩
      · exact .inl ⟨_, rfl⟩
      · exact .inr ⟨_, rfl⟩)
    (fun hok W b hW hk => first1_ok b a _ _ _ W hk (hs.fit hok))
  have htr2 : Calls Try.prog 39 #[vA a (.slice As a.start.length cs) (.slice Af a.final.length cf) (.slice Ae a.edges.length ce), .func (.func 40) #[] #[]] W1 (fun r w' => FirstOut a r ∧ (∃ s e, r = .returned (.tuple #[.string s, .int .i64 e])) ∧ Below W1.heap.size W1 w') := by
    refine htr.mono ?_
    rintro r w' ⟨hb, h⟩
    rcases h with ⟨hok, rfl⟩ | ⟨hok, r0, W0, hF, _, hst, hr⟩
    · exact ⟨.inl ⟨hok, rfl⟩, ⟨_, _, rfl⟩, hb⟩
    · rcases hF with ⟨word, rfl, hf⟩ | ⟨rfl, hf⟩
      · rcases hr with ⟨v', h1, rfl⟩ | ⟨e, h1, _⟩
        · cases h1
          exact ⟨.inr ⟨hok, .inl ⟨word, rfl, hf⟩⟩, ⟨_, _, rfl⟩, hb⟩
        · cases h1
      · rcases hr with ⟨v', h1, _⟩ | ⟨e, h1, rfl⟩
        · cases h1
        · have : (4 : Int) = e := by simp [errPanic] at h1; exact h1
          subst this
          exact ⟨.inr ⟨hok, .inr ⟨rfl, hf⟩⟩, ⟨_, _, rfl⟩, hb⟩
  unfold vA at htr2 ⊢
  clear hfa n1 htr
  go_enter Try.func9, Try.ntmps9
  go_wp2_with (go_at_call 39; refine htr2.mono ?_; rintro r w3 ⟨hE, hF, d3⟩; obtain ⟨s5, e5, rfl⟩ := hF; have HE := Lib.hid hE; clear hE)
  refine bodyPost_ret (results_tmp2 rfl _ _ _) rfl ?_
  exact ⟨HE.out, below_next d1 d3⟩
end Go.Proofs.Ytakldmbbmefnbaa
