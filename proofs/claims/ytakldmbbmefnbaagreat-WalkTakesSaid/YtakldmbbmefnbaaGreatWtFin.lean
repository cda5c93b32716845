/- The statement WalkTakes is proved: whatever the automaton and the words that are handed over, cornicelaw17.WalkTakes returns true, does not panic, and leaves its arguments as they were. No condition. -/
import Derived.Test.YtakldmbbmefnbaaGreatWt3
import Derived.Test.YtakldmbbmefnbaaGreatRows
namespace Go.Proofs.YtakldmbbmefnbaaGreat
open Go.ChangeShapes Go.WideShapes Go.ChangeAt Go.RowKit Go.Joins

theorem walkTakes_walk (a : A) (As Af Ae Aw : Option Addr) (cs cf ce cw : Nat) (words : List (List UInt8)) (w : World) (hfa : FaAt w w.heap.size a (.slice As a.start.length cs) (.slice Af a.final.length cf) (.slice Ae a.edges.length ce))
    (h1 : a.start.length ≤ cs) (h2 : a.final.length ≤ cf) (h3 : a.edges.length ≤ ce) (h4 : cs ≤ maxLen) (h5 : cf ≤ maxLen) (h6 : ce ≤ maxLen) (hvw : Strs w w.heap.size (.slice Aw words.length cw) words) (hwl : words.length ≤ maxLen) (hwb : ∀ x ∈ words, x.length ≤ maxLen) :
    Calls Tryz.prog 4 #[vA a (.slice As a.start.length cs) (.slice Af a.final.length cf) (.slice Ae a.edges.length ce), .slice Aw words.length cw] w (fun r w' => r = .returned (.bool true) ∧ Below w.heap.size w w') := by
  cases hok : a.few.ok with
  | false => exact walkTakes_bad a As Af Ae Aw cs cf ce cw words w hfa h1 h2 h3 h4 h5 h6 hok hvw hwl hwb
  | true => exact walkTakes_good a As Af Ae Aw cs cf ce cw words w hfa h1 h2 h3 h4 h5 h6 hok hvw hwl hwb

set_option maxRecDepth 100000 in
theorem walkTakes_lifted (os : Os) (started : os.Started) (H : Type) (enc : TypeId × Value → H) :
    ReturnsInHanded {} Tryz.checked os 4 .any (Rows.walkTakesSpec.pre6 enc Tryz.prog Tryz.f4 Rows.walkTakesRow.domain false) (Rows.walkTakesSpec.post enc Tryz.prog Tryz.f4 false true false false) := by
  refine returnsInHanded_of_change (C := Tryz.checked) own_knob started (by kernel_rfl) Tryz.func4
    (ChangeSpec.witness6 (enc := enc) (C := Tryz.checked) false ⟨#[], #[.agg #[.int .i64 0, .slice none 0 0, .slice none 0 0, .slice none 0 0], .slice none 0 0], []⟩ 8 (by kernel_rfl) (by kernel_rfl) (by kernel_rfl) (by kernel_rfl)) ?_
  intro W base args ds gs before hval0 hW hcnd _
  have hval : ∀ (j : Nat) t v, Tryz.f4.params[j]? = some t → args[j]? = some v → Value.okWide Tryz.prog W .any base t v := hval0
  have hW' := hW
  obtain ⟨p, q, hA0, hV, rfl, hfz, hnd⟩ := hW
  have hA : DataW.TrodAll enc Tryz.prog W 0 (fun _ => true) true Tryz.f4.params.toList args.toList ds p := hA0
  rw [Tryz.params4] at hA hval
  obtain ⟨v0, v1, d0, d1, p0, p1, rfl, rfl, rfl, h0, h1⟩ := trodAll_two hA
  obtain ⟨rfl, rfl⟩ := trodVars_none hV
  have k0 := h0
  have k1 := h1
  have lt0 : ∀ x ∈ p0, x.block < W.heap.size := by obtain ⟨m, hm⟩ := k0; exact DataW.trod_lt m _ _ _ hm
  have lt1 : ∀ x ∈ p1, x.block < W.heap.size := by obtain ⟨m, hm⟩ := k1; exact DataW.trod_lt m _ _ _ hm
  obtain ⟨a, As, Af, Ae, cs, cf, ce, rfl, hfa, l1, l2, l3, m1, m2, m3, _⟩ := open_fa (hval 0 25 v0 rfl rfl) h0
  obtain ⟨A1, n1, c1, rfl⟩ := okWide_slice Tryz.underlying44 (hval 1 44 v1 rfl rfl)
  obtain ⟨A2, c2, words, hx, l4, m4, hwb, hs⟩ : ∃ A cap, ∃ xs : List (List UInt8), [Value.slice A1 n1 c1] = [.slice A xs.length cap] ∧ xs.length ≤ cap ∧ cap ≤ maxLen ∧ (∀ x ∈ xs, x.length ≤ maxLen) ∧ Strs W W.heap.size (.slice A xs.length cap) xs := by
    obtain ⟨fuel, hf⟩ := h1
    exact open_strs_sl (cs := [Value.slice A1 n1 c1]) (by simpa [Value.cells] using hf)
  simp at hx
  obtain ⟨rfl, rfl, rfl⟩ := hx
  clear hA0 hval0
  simp only [List.append_nil] at hW'
  refine (walkTakes_walk a As Af Ae A1 cs cf ce c1 words W hfa l1 l2 l3 m1 m2 m3 hs (Nat.le_trans l4 m4) hwb).mono fun e W' ⟨he, bel⟩ => ?_
  subst he
  exact ⟨_, rfl, _, _, _, [], _, [], hW', trodAll_mk1 (shut_bool Tryz.underlying4 _), trodAll_mk2 (Below.trod laid_out (by kernel_rfl) (of_decide_eq_true (by kernel_rfl)) k0 bel lt0) (Below.trod laid_out (by kernel_rfl) (of_decide_eq_true (by kernel_rfl)) k1 bel lt1), rfl, bel.frame _, fun h => by cases h⟩

/-- The statement. -/
theorem walkTakes_holds : Rows.WalkTakesSaid :=
  OpenClaim.holds_of_wide 4 Tryz.f4 rfl rfl rfl rfl rfl rfl rfl ⟨rfl, rfl, rfl, rfl, rfl⟩ rfl rfl rfl rfl rfl (by kernel_rfl) Tryz.func4 (by kernel_rfl)
    (of_decide_eq_true (by kernel_rfl)) (by unfold Func.isWrapper; first | (rw [if_pos (by decide +kernel)]; kernel_rfl) | (rw [if_neg (by decide +kernel)]; exact ⟨rfl, rfl⟩))
    (fun os started H enc _ => walkTakes_lifted os started H enc)
#print axioms walkTakes_holds
end Go.Proofs.YtakldmbbmefnbaaGreat
