/- fa.all: whether something holds of each. -/
import Derived.Test.YtakldmbbmefnbaaProg
import Derived.Test.YtakldmbbmefnbaaLib2
namespace Go.Proofs.Ytakldmbbmefnbaa
open Go.RowKit


theorem all_int_not (fv : Value) (D : Int → Prop) (p : Int → Bool) (w : World) (hp : Pred1 Try.prog (fun x => .int .i64 x) fv D p w) (b : Nat) (hb : b < w.heap.size) (hc : w.cell? ⟨b, 0, none⟩ = some fv) :
    Pred1 Try.prog (fun x => .int .i64 x) (.func (.func 122) #[] #[.pointer (some ⟨b, 0, none⟩)]) D (fun x => !p x) w := by
  refine ⟨_, _, rfl, Try.call122, fun W x hd hW => ?_⟩
  have hc' := (hW.cell (p := ⟨b, 0, none⟩) hb).trans hc
  have hb' := Nat.lt_of_lt_of_le hb hW.size
  obtain ⟨k, lb, rfl, hen, hpc⟩ := id hp
  go_enter Try.func122, Try.ntmps122
  cases hx : p x with
  | true =>
    have hcall := fun W' (h : Below w.heap.size w W') => hpc W' x hd h
    rw [hx] at hcall
    go_wp2_with (refine (hcall _ (hW)).mono ?_; rintro e w1 ⟨rfl, hb1⟩)
    go_ret
    exact ⟨rfl, hb1⟩
  | false =>
    have hcall := fun W' (h : Below w.heap.size w W') => hpc W' x hd h
    rw [hx] at hcall
    go_wp2_with (refine (hcall _ (hW)).mono ?_; rintro e w1 ⟨rfl, hb1⟩)
    go_ret
    exact ⟨rfl, hb1⟩

theorem all_int (v fv : Value) (xs : List Int) (D : Int → Prop) (p : Int → Bool) (w : World) (h : Sl encI 1 w w.heap.size v xs) (hp : Pred1 Try.prog (fun x => .int .i64 x) fv D p w) (hD : ∀ x ∈ xs, D x) (hn : xs.length ≤ 1000000) :
    Calls Try.prog 106 #[v, fv] w (fun r w' => r = .returned (.bool (xs.all p)) ∧ Below w.heap.size w w') := by
  obtain ⟨k, lb, rfl, hen, hpc⟩ := id hp
  have hw1 : Below w.heap.size w (w.alloc (.cells #[.func (.func k) #[] lb] 36)) := (Below.refl _ _).alloc (Nat.le_refl _) _
  have hq := all_int_not _ D p _ (hp.below hw1) w.heap.size (by simp) (cell_new _ _ _ _)
  go_enter Try.func106, Try.ntmps106
  go_wp2_with (go_at_call 12; refine (containsFunc_int _ _ xs D _ _ (h.below hw1 (by simp)) hq hD hn).mono ?_; rintro e w1 ⟨rfl, hb1⟩)
  all_goals (go_ret; exact ⟨congrArg (fun z => Ending.returned (.bool z)) (by simp [any_not]), below_next hw1 hb1⟩)

theorem all_edge_not (fv : Value) (D : E → Prop) (p : E → Bool) (w : World) (hp : Pred1 Try.prog (fun x => vE x) fv D p w) (b : Nat) (hb : b < w.heap.size) (hc : w.cell? ⟨b, 0, none⟩ = some fv) :
    Pred1 Try.prog (fun x => vE x) (.func (.func 124) #[] #[.pointer (some ⟨b, 0, none⟩)]) D (fun x => !p x) w := by
  refine ⟨_, _, rfl, Try.call124, fun W x hd hW => ?_⟩
  have hc' := (hW.cell (p := ⟨b, 0, none⟩) hb).trans hc
  have hb' := Nat.lt_of_lt_of_le hb hW.size
  obtain ⟨k, lb, rfl, hen, hpc⟩ := id hp
  unfold vE
  go_enter Try.func124, Try.ntmps124
  cases hx : p x with
  | true =>
    have hcall := fun W' (h : Below w.heap.size w W') => hpc W' x hd h
    rw [hx] at hcall
    go_wp2_with (refine (hcall _ (hW.alloc hW.size _)).mono ?_; rintro e w1 ⟨rfl, hb1⟩)
    go_ret
    exact ⟨rfl, below_next ((Below.refl _ _).alloc (Nat.le_refl _) _) hb1⟩
  | false =>
    have hcall := fun W' (h : Below w.heap.size w W') => hpc W' x hd h
    rw [hx] at hcall
    go_wp2_with (refine (hcall _ (hW.alloc hW.size _)).mono ?_; rintro e w1 ⟨rfl, hb1⟩)
    go_ret
    exact ⟨rfl, below_next ((Below.refl _ _).alloc (Nat.le_refl _) _) hb1⟩

theorem all_edge (v fv : Value) (xs : List E) (D : E → Prop) (p : E → Bool) (w : World) (h : Sl encE 7 w w.heap.size v xs) (hp : Pred1 Try.prog (fun x => vE x) fv D p w) (hD : ∀ x ∈ xs, D x) (hn : xs.length ≤ 1000000) :
    Calls Try.prog 107 #[v, fv] w (fun r w' => r = .returned (.bool (xs.all p)) ∧ Below w.heap.size w w') := by
  obtain ⟨k, lb, rfl, hen, hpc⟩ := id hp
  have hw1 : Below w.heap.size w (w.alloc (.cells #[.func (.func k) #[] lb] 87)) := (Below.refl _ _).alloc (Nat.le_refl _) _
  have hq := all_edge_not _ D p _ (hp.below hw1) w.heap.size (by simp) (cell_new _ _ _ _)
  go_enter Try.func107, Try.ntmps107
  go_wp2_with (go_at_call 123; refine (containsFunc_edge _ _ xs D _ _ (h.below hw1 (by simp)) hq hD hn).mono ?_; rintro e w1 ⟨rfl, hb1⟩)
  all_goals (go_ret; exact ⟨congrArg (fun z => Ending.returned (.bool z)) (by simp [any_not]), below_next hw1 hb1⟩)
end Go.Proofs.Ytakldmbbmefnbaa
