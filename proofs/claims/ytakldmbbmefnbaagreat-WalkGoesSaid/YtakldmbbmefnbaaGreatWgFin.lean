/- The statement WalkGoes is proved: whatever the automaton, the row of states and the word that are handed over, cornicelaw17.WalkGoes returns true, does not panic, and leaves its arguments as they were. No condition. -/
import Derived.Test.YtakldmbbmefnbaaGreatWg3
import Derived.Test.YtakldmbbmefnbaaGreatRows
namespace Go.Proofs.YtakldmbbmefnbaaGreat
open Go.ChangeShapes Go.WideShapes Go.ChangeAt Go.RowKit Go.Joins
open Go.ChangeMaps (open_string shut_string)

theorem walkGoes_walk (a : A) (As Af Ae Ay : Option Addr) (cs cf ce cy : Nat) (yl : List Int) (word : ByteArray) (w : World) (hfa : FaAt w w.heap.size a (.slice As a.start.length cs) (.slice Af a.final.length cf) (.slice Ae a.edges.length ce))
    (h1 : a.start.length ≤ cs) (h2 : a.final.length ≤ cf) (h3 : a.edges.length ≤ ce) (h4 : cs ≤ maxLen) (h5 : cf ≤ maxLen) (h6 : ce ≤ maxLen) (hy : Ints w w.heap.size (.slice Ay yl.length cy) yl) (hyc : yl.length ≤ cy) (hym : cy ≤ maxLen) (hwm : word.size ≤ maxLen) :
    Calls Tryz.prog 3 #[vA a (.slice As a.start.length cs) (.slice Af a.final.length cf) (.slice Ae a.edges.length ce), .slice Ay yl.length cy, .string word] w (fun r w' => r = .returned (.bool true) ∧ Below w.heap.size w w') := by
  cases hok : a.few.ok with
  | false => exact walkGoes_bad a As Af Ae Ay cs cf ce cy yl word.data.toList w hfa h1 h2 h3 h4 h5 h6 hy hyc hym hwm hok
  | true =>
    cases hin : (yl.take 8).all (inB a.few.states) with
    | false => exact walkGoes_out a As Af Ae Ay cs cf ce cy yl word.data.toList w hfa h1 h2 h3 h4 h5 h6 hy hyc hym hwm hok hin
    | true => exact walkGoes_all a As Af Ae Ay cs cf ce cy yl word.data.toList w hfa h1 h2 h3 h4 h5 h6 hy hyc hym hwm hok hin

set_option maxRecDepth 100000 in
theorem walkGoes_lifted (os : Os) (started : os.Started) (H : Type) (enc : TypeId × Value → H) :
    ReturnsInHanded {} Tryz.checked os 3 .any (Rows.walkGoesSpec.pre6 enc Tryz.prog Tryz.f3 Rows.walkGoesRow.domain false) (Rows.walkGoesSpec.post enc Tryz.prog Tryz.f3 false true false false) := by
  refine returnsInHanded_of_change (C := Tryz.checked) own_knob started (by kernel_rfl) Tryz.func3
    (ChangeSpec.witness6 (enc := enc) (C := Tryz.checked) false ⟨#[], #[.agg #[.int .i64 0, .slice none 0 0, .slice none 0 0, .slice none 0 0], .slice none 0 0, .string ⟨#[]⟩], []⟩ 8 (by kernel_rfl) (by kernel_rfl) (by kernel_rfl) (by kernel_rfl)) ?_
  intro W base args ds gs before hval0 hW hcnd _
  have hval : ∀ (j : Nat) t v, Tryz.f3.params[j]? = some t → args[j]? = some v → Value.okWide Tryz.prog W .any base t v := hval0
  have hW' := hW
  obtain ⟨p, q, hA0, hV, rfl, hfz, hnd⟩ := hW
  have hA : DataW.TrodAll enc Tryz.prog W 0 (fun _ => true) true Tryz.f3.params.toList args.toList ds p := hA0
  rw [Tryz.params3] at hA hval
  obtain ⟨v0, v1, v2, d0, d1, d2, p0, p1, p2, rfl, rfl, rfl, h0, h1, h2⟩ := trodAll_three hA
  obtain ⟨rfl, rfl⟩ := trodVars_none hV
  have k0 := h0
  have k1 := h1
  have lt0 : ∀ x ∈ p0, x.block < W.heap.size := by obtain ⟨m, hm⟩ := k0; exact DataW.trod_lt m _ _ _ hm
  have lt1 : ∀ x ∈ p1, x.block < W.heap.size := by obtain ⟨m, hm⟩ := k1; exact DataW.trod_lt m _ _ _ hm
  obtain ⟨a, As, Af, Ae, cs, cf, ce, rfl, hfa, l1, l2, l3, m1, m2, m3, _⟩ := open_fa (hval 0 25 v0 rfl rfl) h0
  obtain ⟨A1, n1, c1, rfl⟩ := okWide_slice Tryz.underlying22 (hval 1 22 v1 rfl rfl)
  obtain ⟨Ay, cy, yl, hx, l4, m4, hs⟩ : ∃ A cap, ∃ xs : List Int, [Value.slice A1 n1 c1] = [.slice A xs.length cap] ∧ xs.length ≤ cap ∧ cap ≤ maxLen ∧ Ints W W.heap.size (.slice A xs.length cap) xs := by
    obtain ⟨fuel, hf⟩ := h1
    exact open_ints_sl (cs := [Value.slice A1 n1 c1]) (by simpa [Value.cells] using hf)
  simp at hx
  obtain ⟨rfl, rfl, rfl⟩ := hx
  obtain ⟨sw, rfl, rfl, rfl, hs2⟩ := open_string Tryz.underlying9 (hval 2 9 v2 rfl rfl) h2
  clear hA0 hval0
  simp only [List.append_nil] at hW'
  refine (walkGoes_walk a As Af Ae A1 cs cf ce c1 yl sw W hfa l1 l2 l3 m1 m2 m3 hs l4 m4 hs2).mono fun e W' ⟨he, bel⟩ => ?_
  subst he
  exact ⟨_, rfl, _, _, _, [], _, [], hW', trodAll_mk1 (shut_bool Tryz.underlying4 _), trodAll_mk3 (Below.trod laid_out (by kernel_rfl) (of_decide_eq_true (by kernel_rfl)) k0 bel lt0) (Below.trod laid_out (by kernel_rfl) (of_decide_eq_true (by kernel_rfl)) k1 bel lt1) (shut_string Tryz.underlying9 hs2), rfl, bel.frame _, fun h => by cases h⟩

/-- The statement. -/
theorem walkGoes_holds : Rows.WalkGoesSaid :=
  OpenClaim.holds_of_wide 3 Tryz.f3 rfl rfl rfl rfl rfl rfl rfl ⟨rfl, rfl, rfl, rfl, rfl⟩ rfl rfl rfl rfl rfl (by kernel_rfl) Tryz.func3 (by kernel_rfl)
    (of_decide_eq_true (by kernel_rfl)) (by unfold Func.isWrapper; first | (rw [if_pos (by decide +kernel)]; kernel_rfl) | (rw [if_neg (by decide +kernel)]; exact ⟨rfl, rfl⟩))
    (fun os started H enc _ => walkGoes_lifted os started H enc)
#print axioms walkGoes_holds
end Go.Proofs.YtakldmbbmefnbaaGreat
