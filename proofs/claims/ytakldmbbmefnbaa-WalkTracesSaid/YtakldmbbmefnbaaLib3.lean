/- slices.Index, Contains and Equal at numbers. -/
import Derived.Test.YtakldmbbmefnbaaProg
import Derived.Test.YtakldmbbmefnbaaData

namespace Go.Proofs.Ytakldmbbmefnbaa
open Go.RowKit
set_option maxHeartbeats 400000 in
theorem index_int (v : Value) (xs : List Int) (y : Int) (w : World) (h : Ints w w.heap.size v xs) (hn : xs.length ≤ 1000000) :
    Calls Try.prog 48 #[v, .int .i64 y] w (fun r w' => r = .returned (.int .i64 (idxOf (fun x => y == x) xs)) ∧ w' = w) := by
  obtain ⟨A, c, rfl, hr⟩ := id h
  go_enter Try.func48, Try.ntmps48
  go_wp2
  go_loop [8] (fun i => ∃ k : Nat, k ≤ xs.length ∧ i = .int .i64 k ∧ ∀ j (hj : j < k) (hj' : j < xs.length), (y == xs[j]) = false) (fun i => xs.length - (intOf i).toNat)
  case atStart => exact ⟨0, Nat.zero_le _, rfl, fun j hj => absurd hj (by omega)⟩
  case round =>
    obtain ⟨k, hk, rfl, hall⟩ := hrel
    have HA := Lib.hid hall
    clear hall
    by_cases hlt : k < xs.length
    · obtain ⟨b, o, rfl, hb, hc⟩ := hr (by omega)
      have hcell := cell1 encI_eq hc hlt
      clear hr hc h
      by_cases hpx : (y == xs[k]) = true
      · go_wp2
        go_ret
        have hi := idxOf_at (p := fun x => y == x) hlt (fun j hj => HA.out j hj (by omega)) hpx
        exact ⟨by simp [hi], rfl⟩
      · have hpx' : (y == xs[k]) = false := by simpa using hpx
        have HP := Lib.hid hpx'
        go_wp2
        go_round
        case rel =>
          refine ⟨k + 1, by omega, by go_num, fun j hj hj' => ?_⟩
          rcases Nat.lt_succ_iff_lt_or_eq.1 hj with h | rfl
          · exact HA.out j h hj'
          · exact HP.out
        case measure => simp [intOf]; omega
    · clear hr h
      go_wp2
      go_ret
      have hi := idxOf_none (p := fun x => y == x) (xs := xs) (fun j hj => HA.out j (by omega) hj)
      exact ⟨by simp [hi], rfl⟩
theorem contains_int (v : Value) (xs : List Int) (y : Int) (w : World) (h : Ints w w.heap.size v xs) (hn : xs.length ≤ 1000000) :
    Calls Try.prog 14 #[v, .int .i64 y] w (fun r w' => r = .returned (.bool (xs.any (fun x => y == x))) ∧ w' = w) := by
  rw [← idxOf_any]
  go_enter Try.func14, Try.ntmps14
  go_wp2_with (go_at_call 48; refine (index_int _ xs y _ h hn).mono ?_; rintro e w1 ⟨rfl, rfl⟩)
  all_goals (go_ret; exact ⟨rfl, rfl⟩)

theorem equal_int (v v' : Value) (xs ys : List Int) (w : World) (h : Ints w w.heap.size v xs) (h' : Ints w w.heap.size v' ys) (hn : xs.length ≤ 1000000) (hn' : ys.length ≤ 1000000) :
    Calls Try.prog 18 #[v, v'] w (fun r w' => r = .returned (.bool (xs == ys)) ∧ Below w.heap.size w w') := by
  obtain ⟨A, c, rfl, hr⟩ := id h
  obtain ⟨A', c', rfl, hr'⟩ := id h'
  go_enter Try.func18, Try.ntmps18
  by_cases hl : ((xs.length : Int) != ys.length) = true
  · go_wp2
    go_ret
    have : xs ≠ ys := by rintro rfl; simp at hl
    exact ⟨by simp [this], Below.refl _ _⟩
  · have hl' : ((xs.length : Int) != ys.length) = false := by simpa using hl
    go_wp2
    have hll : xs.length = ys.length := by simp at hl'; omega
    have HL := Lib.hid hll
    clear hll hl hl'
    go_loopw [13] (fun i wr => ∃ k : Nat, k ≤ xs.length ∧ i = .int .i64 k ∧ Below w.heap.size w wr ∧ xs.take k = ys.take k) (fun i _ => xs.length - (intOf i).toNat)
    case atStart => exact ⟨0, Nat.zero_le _, rfl, Below.refl _ _, rfl⟩
    case round =>
      obtain ⟨k, hk, rfl, hB, hall⟩ := hrel
      have HA := Lib.hid hall
      clear hall
      by_cases hlt : k < xs.length
      · have hlt' : k < ys.length := by have := HL.out; omega
        obtain ⟨b, o, rfl, hb, hc⟩ := hr (by omega)
        obtain ⟨b', o', rfl, hb', hc'⟩ := hr' (by omega)
        have hcell := (hB.cell (p := ⟨b, o + k, none⟩) hb).trans (cell1 encI_eq hc hlt)
        have hcell' := (hB.cell (p := ⟨b', o' + k, none⟩) hb').trans (cell1 encI_eq hc' hlt')
        clear hr hc h hr' hc' h'
        have hi : (k : Int) < xs.length := by omega
        have hi' : (k : Int) < ys.length := by omega
        by_cases hpx : (xs[k] != ys[k]) = true
        · go_wp2
          go_quiet (fail)
          go_wp2
          go_ret
          have : xs ≠ ys := by rintro rfl; simp at hpx
          exact ⟨by simp [this], below_drewN hB _⟩
        · have hpx' : (xs[k] != ys[k]) = false := by simpa using hpx
          have HP := Lib.hid hpx'
          go_wp2
          go_quiet (fail)
          go_wp2
          go_roundw
          case rel =>
            refine ⟨k + 1, by omega, by go_num, below_drewN hB _, ?_⟩
            have h1 := HP.out
            have h2 : xs[k] = ys[k] := by simpa using h1
            rw [List.take_succ_eq_append_getElem hlt, List.take_succ_eq_append_getElem hlt', HA.out, h2]
          case measure => simp [intOf]; omega
      · clear hr h hr' h'
        go_wp2
        go_ret
        have h1 := HA.out
        have h2 := HL.out
        rw [List.take_of_length_le (by omega), List.take_of_length_le (by omega)] at h1
        exact ⟨by simp [h1], hB⟩
end Go.Proofs.Ytakldmbbmefnbaa
