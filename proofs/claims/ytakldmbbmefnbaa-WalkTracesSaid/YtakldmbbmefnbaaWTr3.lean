/- The statement WalkTraces is proved: whatever the automaton and the two words that are handed over, cornicelaw17.WalkTraces returns true, does not panic, and leaves its arguments as they were. No condition. -/
import Derived.Test.YtakldmbbmefnbaaRows
import Derived.Test.YtakldmbbmefnbaaWTr2
import Derived.Test.YtakldmbbmefnbaaRowKit
namespace Go.Proofs.Ytakldmbbmefnbaa
open Go.ChangeShapes Go.WideShapes Go.ChangeAt Go.RowKit Go.Joins
open Go.ChangeMaps (open_string shut_string)

theorem walkTraces_walk (a : A) (As Af Ae : Option Addr) (cs cf ce : Nat) (v0 w0 : ByteArray) (w : World) (hfa : FaAt w w.heap.size a (.slice As a.start.length cs) (.slice Af a.final.length cf) (.slice Ae a.edges.length ce))
    (h1 : a.start.length ≤ cs) (h2 : a.final.length ≤ cf) (h3 : a.edges.length ≤ ce) (h4 : cs ≤ maxLen) (h5 : cf ≤ maxLen) (h6 : ce ≤ maxLen) (hv0 : v0.size ≤ maxLen) (hw0 : w0.size ≤ maxLen) :
    Calls Try.prog 4 #[vA a (.slice As a.start.length cs) (.slice Af a.final.length cf) (.slice Ae a.edges.length ce), .string v0, .string w0] w (fun r w' => r = .returned (.bool true) ∧ Below w.heap.size w w') := by
  cases hok : a.few.ok with
  | false => exact walkTraces_bad a As Af Ae cs cf ce v0.data.toList w0.data.toList w hfa h1 h2 h3 h4 h5 h6 hv0 hw0 hok
  | true => exact walkTraces_good a As Af Ae cs cf ce v0.data.toList w0.data.toList w hfa h1 h2 h3 h4 h5 h6 hv0 hw0 hok

set_option maxRecDepth 100000 in
theorem walkTraces_lifted (os : Os) (started : os.Started) (H : Type) (enc : TypeId × Value → H) :
    ReturnsInHanded {} Try.checked os 4 .any (Rows.walkTracesSpec.pre6 enc Try.prog Try.f4 Rows.walkTracesRow.domain false) (Rows.walkTracesSpec.post enc Try.prog Try.f4 false true false false) := by
  refine returnsInHanded_of_change (C := Try.checked) own_knob started (by kernel_rfl) Try.func4
    (ChangeSpec.witness6 (enc := enc) (C := Try.checked) false ⟨#[], #[.agg #[.int .i64 0, .slice none 0 0, .slice none 0 0, .slice none 0 0], .string ⟨#[]⟩, .string ⟨#[]⟩], []⟩ 8 (by kernel_rfl) (by kernel_rfl) (by kernel_rfl) (by kernel_rfl)) ?_
  intro W base args ds gs before hval0 hW hcnd _
  have hval : ∀ (j : Nat) t v, Try.f4.params[j]? = some t → args[j]? = some v → Value.okWide Try.prog W .any base t v := hval0
  have hW' := hW
  obtain ⟨p, q, hA0, hV, rfl, hfz, hnd⟩ := hW
  have hA : DataW.TrodAll enc Try.prog W 0 (fun _ => true) true Try.f4.params.toList args.toList ds p := hA0
  rw [Try.params4] at hA hval
  obtain ⟨v0, v1, v2, d0, d1, d2, p0, p1, p2, rfl, rfl, rfl, h0, h1, h2⟩ := trodAll_three hA
  obtain ⟨rfl, rfl⟩ := trodVars_none hV
  have k0 := h0
  have lt0 : ∀ x ∈ p0, x.block < W.heap.size := by obtain ⟨m, hm⟩ := k0; exact DataW.trod_lt m _ _ _ hm
  obtain ⟨a, As, Af, Ae, cs, cf, ce, rfl, hfa, l1, l2, l3, m1, m2, m3, _⟩ := open_fa (hval 0 25 v0 rfl rfl) h0
  obtain ⟨sv, rfl, rfl, rfl, hs1⟩ := open_string Try.underlying9 (hval 1 9 v1 rfl rfl) h1
  obtain ⟨sw, rfl, rfl, rfl, hs2⟩ := open_string Try.underlying9 (hval 2 9 v2 rfl rfl) h2
  clear hA0 hval0
  simp only [List.append_nil] at hW'
  refine (walkTraces_walk a As Af Ae cs cf ce sv sw W hfa l1 l2 l3 m1 m2 m3 hs1 hs2).mono fun e W' ⟨he, bel⟩ => ?_
  subst he
  exact ⟨_, rfl, _, _, _, [], _, [], hW', trodAll_mk1 (shut_bool Try.underlying4 _), trodAll_mk3 (Below.trod laid_out (by kernel_rfl) (of_decide_eq_true (by kernel_rfl)) k0 bel lt0) (shut_string Try.underlying9 hs1) (shut_string Try.underlying9 hs2), rfl, bel.frame _, fun h => by cases h⟩

/-- The statement. -/
theorem walkTraces_holds : Rows.WalkTracesSaid :=
  OpenClaim.holds_of_wide 4 Try.f4 rfl rfl rfl rfl rfl rfl rfl ⟨rfl, rfl, rfl, rfl, rfl⟩ rfl rfl rfl rfl rfl (by kernel_rfl) Try.func4 (by kernel_rfl)
    (of_decide_eq_true (by kernel_rfl)) (by unfold Func.isWrapper; first | (rw [if_pos (by decide +kernel)]; kernel_rfl) | (rw [if_neg (by decide +kernel)]; exact ⟨rfl, rfl⟩))
    (fun os started H enc _ => walkTraces_lifted os started H enc)
#print axioms walkTraces_holds
end Go.Proofs.Ytakldmbbmefnbaa
