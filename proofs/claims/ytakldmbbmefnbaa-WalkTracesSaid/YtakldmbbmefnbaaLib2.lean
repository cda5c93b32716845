/- slices.IndexFunc and ContainsFunc. -/
import Derived.Test.YtakldmbbmefnbaaProg
import Derived.Test.YtakldmbbmefnbaaData
namespace Go.Proofs.Ytakldmbbmefnbaa
open Go.RowKit


set_option maxHeartbeats 1000000 in
theorem indexFunc_int (v fv : Value) (xs : List Int) (D : Int → Prop) (p : Int → Bool) (w : World) (h : Sl encI 1 w w.heap.size v xs) (hp : Pred1 Try.prog (fun x => .int .i64 x) fv D p w) (hD : ∀ x ∈ xs, D x) (hn : xs.length ≤ 1000000) :
    Calls Try.prog 47 #[v, fv] w (fun r w' => r = .returned (.int .i64 (idxOf p xs)) ∧ Below w.heap.size w w') := by
  obtain ⟨A, c, rfl, hr⟩ := id h
  obtain ⟨g, lb, rfl, hen, hpc⟩ := id hp
  go_enter Try.func47, Try.ntmps47
  go_wp2
  go_loopw [8] (fun i wr => ∃ k : Nat, k ≤ xs.length ∧ i = .int .i64 k ∧ Below w.heap.size w wr ∧ ∀ j (hj : j < k) (hj' : j < xs.length), p xs[j] = false) (fun i _ => xs.length - (intOf i).toNat)
  case atStart => exact ⟨0, Nat.zero_le _, rfl, Below.refl _ _, fun j hj => absurd hj (by omega)⟩
  case round =>
    obtain ⟨k, hk, rfl, hB, hall⟩ := hrel
    by_cases hlt : k < xs.length
    · obtain ⟨b, o, rfl, hb, hc⟩ := hr (by omega)
      have hcell := (hB.cell (p := ⟨b, o + k, none⟩) hb).trans (cell1 encI_eq hc hlt)
      have hcall := hpc wr xs[k] (hD _ (List.getElem_mem hlt)) hB
      clear hr hc hpc hp h
      have HA := Lib.hid hall
      clear hall
      go_wp2
      refine hcall.mono ?_
      rintro e w1 ⟨rfl, hb1⟩
      cases hpx : p xs[k] with
      | true =>
        go_wp2
        go_ret
        have hi := idxOf_at hlt (fun j hj => HA.out j hj (by omega)) hpx
        exact ⟨by simp [hi], below_next hB hb1⟩
      | false =>
        have HP := Lib.hid hpx
        go_wp2
        go_roundw
        case rel =>
          refine ⟨k + 1, by omega, by go_num, below_next hB hb1, fun j hj hj' => ?_⟩
          rcases Nat.lt_succ_iff_lt_or_eq.1 hj with h | rfl
          · exact HA.out j h hj'
          · exact HP.out
        case measure => simp [intOf]; omega
    · clear hr hp h
      have HA := Lib.hid hall
      clear hall
      go_wp2
      go_ret
      have hi := idxOf_none (p := p) (xs := xs) (fun j hj => HA.out j (by omega) hj)
      exact ⟨by simp [hi], hB⟩

theorem containsFunc_int (v fv : Value) (xs : List Int) (D : Int → Prop) (p : Int → Bool) (w : World) (h : Sl encI 1 w w.heap.size v xs) (hp : Pred1 Try.prog (fun x => .int .i64 x) fv D p w) (hD : ∀ x ∈ xs, D x) (hn : xs.length ≤ 1000000) :
    Calls Try.prog 12 #[v, fv] w (fun r w' => r = .returned (.bool (xs.any p)) ∧ Below w.heap.size w w') := by
  rw [← idxOf_any]
  go_enter Try.func12, Try.ntmps12
  go_wp2_with (go_at_call 47; refine (indexFunc_int _ _ xs D p _ h hp hD hn).mono ?_; rintro e w1 ⟨rfl, hb1⟩)
  all_goals (go_ret; exact ⟨rfl, hb1⟩)

set_option maxHeartbeats 1000000 in
theorem indexFunc_edge (v fv : Value) (xs : List E) (D : E → Prop) (p : E → Bool) (w : World) (h : Sl encE 7 w w.heap.size v xs) (hp : Pred1 Try.prog (fun x => vE x) fv D p w) (hD : ∀ x ∈ xs, D x) (hn : xs.length ≤ 1000000) :
    Calls Try.prog 129 #[v, fv] w (fun r w' => r = .returned (.int .i64 (idxOf p xs)) ∧ Below w.heap.size w w') := by
  obtain ⟨A, c, rfl, hr⟩ := id h
  obtain ⟨g, lb, rfl, hen, hpc⟩ := id hp
  go_enter Try.func129, Try.ntmps129
  go_wp2
  go_loopw [8] (fun i wr => ∃ k : Nat, k ≤ xs.length ∧ i = .int .i64 k ∧ Below w.heap.size w wr ∧ ∀ j (hj : j < k) (hj' : j < xs.length), p xs[j] = false) (fun i _ => xs.length - (intOf i).toNat)
  case atStart => exact ⟨0, Nat.zero_le _, rfl, Below.refl _ _, fun j hj => absurd hj (by omega)⟩
  case round =>
    obtain ⟨k, hk, rfl, hB, hall⟩ := hrel
    by_cases hlt : k < xs.length
    · obtain ⟨b, o, rfl, hb, hc⟩ := hr (by omega)
      obtain ⟨hcell0, hcell1, hcell2, hcell3, hcell4, hcell5, hcell6⟩ := cell7 hc hlt
      replace hcell0 := (hB.cell (p := ⟨b, o + k * 7, none⟩) hb).trans hcell0
      replace hcell1 := (hB.cell (p := ⟨b, o + k * 7 + 1, none⟩) hb).trans hcell1
      replace hcell2 := (hB.cell (p := ⟨b, o + k * 7 + 2, none⟩) hb).trans hcell2
      replace hcell3 := (hB.cell (p := ⟨b, o + k * 7 + 3, none⟩) hb).trans hcell3
      replace hcell4 := (hB.cell (p := ⟨b, o + k * 7 + 4, none⟩) hb).trans hcell4
      replace hcell5 := (hB.cell (p := ⟨b, o + k * 7 + 5, none⟩) hb).trans hcell5
      replace hcell6 := (hB.cell (p := ⟨b, o + k * 7 + 6, none⟩) hb).trans hcell6
      have hcall := hpc wr xs[k] (hD _ (List.getElem_mem hlt)) hB
      clear hr hc hpc hp h
      have HA := Lib.hid hall
      clear hall
      go_wp2
      refine hcall.mono ?_
      rintro e w1 ⟨rfl, hb1⟩
      cases hpx : p xs[k] with
      | true =>
        go_wp2
        go_ret
        have hi := idxOf_at hlt (fun j hj => HA.out j hj (by omega)) hpx
        exact ⟨by simp [hi], below_next hB hb1⟩
      | false =>
        have HP := Lib.hid hpx
        go_wp2
        go_roundw
        case rel =>
          refine ⟨k + 1, by omega, by go_num, below_next hB hb1, fun j hj hj' => ?_⟩
          rcases Nat.lt_succ_iff_lt_or_eq.1 hj with h | rfl
          · exact HA.out j h hj'
          · exact HP.out
        case measure => simp [intOf]; omega
    · clear hr hp h
      have HA := Lib.hid hall
      clear hall
      go_wp2
      go_ret
      have hi := idxOf_none (p := p) (xs := xs) (fun j hj => HA.out j (by omega) hj)
      exact ⟨by simp [hi], hB⟩

theorem containsFunc_edge (v fv : Value) (xs : List E) (D : E → Prop) (p : E → Bool) (w : World) (h : Sl encE 7 w w.heap.size v xs) (hp : Pred1 Try.prog (fun x => vE x) fv D p w) (hD : ∀ x ∈ xs, D x) (hn : xs.length ≤ 1000000) :
    Calls Try.prog 123 #[v, fv] w (fun r w' => r = .returned (.bool (xs.any p)) ∧ Below w.heap.size w w') := by
  rw [← idxOf_any]
  go_enter Try.func123, Try.ntmps123
  go_wp2_with (go_at_call 129; refine (indexFunc_edge _ _ xs D p _ h hp hD hn).mono ?_; rintro e w1 ⟨rfl, hb1⟩)
  all_goals (go_ret; exact ⟨rfl, hb1⟩)
end Go.Proofs.Ytakldmbbmefnbaa
