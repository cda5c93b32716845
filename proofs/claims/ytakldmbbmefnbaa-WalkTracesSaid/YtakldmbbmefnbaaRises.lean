/- walk.rises: states, rising; here of a row that holds each once. -/
import Derived.Test.YtakldmbbmefnbaaGoes
import Derived.Test.YtakldmbbmefnbaaLib3
import Derived.Test.YtakldmbbmefnbaaShelf
import Derived.Sort.OwnSortedInts
namespace Go.Proofs.Ytakldmbbmefnbaa
open Go.RowKit

theorem encI_flat (xs : List Int) : xs.flatMap encI = xs.map (Value.int .i64) := by
  induction xs with
  | nil => rfl
  | cons x xs ih => rw [List.flatMap_cons, ih]; rfl

/-- The sort, on a row of one's own. -/
theorem sort_own (w : World) (base : Nat) (v : Value) (xs : List Int) (h : Own encI 1 3 w base v xs) (hl : xs.length ≤ 1000000) :
    Calls Try.prog 119 #[v] w fun e w' => e = .returned (.tuple #[]) ∧ Own encI 1 3 w' base v (xs.mergeSort (fun x y => decide (x ≤ y))) ∧ w.grownBy w' (blk v) := by
  rcases h with ⟨rfl, A, rfl⟩ | ⟨b, cap, cur, rfl, hb, hp, h1, h2, hg, hs, ht⟩
  · refine (Try.slices_Sort_int_none A 0 w).mono ?_
    rintro e w' ⟨rfl, rfl⟩
    exact ⟨rfl, by simpa using Own.nil A, ⟨rfl, rfl, rfl, Nat.le_refl _, fun _ _ _ => rfl⟩⟩
  · have ht' : cur.toList.take xs.length = xs.map (Value.int .i64) := by rw [← encI_flat, ← ht, Nat.mul_one]
    refine (Try.slices_Sort_int b 0 cap xs w (holds_of_blockI hg ht') (Array.getElem?_eq_some_iff.1 hg).1 (by omega)).mono ?_
    rintro e w' ⟨rfl, n, os, rfl⟩
    have hlen : (xs.mergeSort (fun x y => decide (x ≤ y))).length = xs.length := List.length_mergeSort ..
    refine ⟨rfl, .inr ⟨b, cap, _, by rw [hlen], hb, hp, by rw [hlen]; exact h1, h2, heap_sortedI _ hg, by simp [Sort.putCells]; simpa using hs, ?_⟩, ?_⟩
    · rw [encI_flat, Nat.mul_one]
      exact take_putCellsI cur _ (by rw [hlen]; omega)
    · obtain ⟨m, rfl⟩ : ∃ m, cap = m + 1 := ⟨cap - 1, by omega⟩
      exact grownBy_sortedI _

/-- Compact, on a row that rises: it is as it is. -/
theorem compact_strict (w : World) (v : Value) (xs : List Int) (h : Ints w w.heap.size v xs) (hs : Strict xs) (hl : xs.length ≤ 1000000) :
    Calls Try.prog 120 #[v] w fun e w' => e = .returned v ∧ Below w.heap.size w w' := by
  obtain ⟨A0, c, rfl, hr⟩ := id h
  clear h
  go_enter Try.func120, Try.ntmps120
  by_cases hlt : xs.length < 2
  · have hi : (xs.length : Int) < 2 := by omega
    clear hr
    go_wp2
    go_ret
    exact ⟨rfl, Below.refl _ _⟩
  · have hi : ¬ (xs.length : Int) < 2 := by omega
    go_wp2
    go_loopw [3] (fun i wr => ∃ k : Nat, k + 1 ≤ xs.length ∧ i = .int .i64 ((k : Int) + 1) ∧ Below w.heap.size w wr) (fun i _ => xs.length - (intOf i).toNat)
    case atStart => exact ⟨0, by omega, rfl, Below.refl _ _⟩
    case round =>
      obtain ⟨k, hk, rfl, hB⟩ := hrel
      by_cases hlk : k + 1 < xs.length
      · obtain ⟨b, o, rfl, hb, hc⟩ := hr (by omega)
        have hcell := (hB.cell (p := ⟨b, o + (k + 1), none⟩) hb).trans (cell1 encI_eq hc hlk)
        have hcell' := (hB.cell (p := ⟨b, o + k, none⟩) hb).trans (cell1 encI_eq hc (show k < xs.length by omega))
        have hne : (xs[k + 1] == xs[k]'(by omega)) = false := by
          have := List.pairwise_iff_getElem.1 hs k (k + 1) (by omega) hlk (by omega)
          simp; omega
        clear hr hc
        have hi2 : (k : Int) + 1 < xs.length := by omega
        have hi3 : (k : Int) < xs.length := by omega
        go_wp2
        go_quiet (fail)
        go_wp2
        go_roundw
        case rel => exact ⟨k + 1, by omega, by go_num, below_drewN hB _⟩
        case measure => simp [intOf]; omega
      · have hi2 : ¬ (k : Int) + 1 < xs.length := by omega
        clear hr
        go_wp2
        go_ret
        exact ⟨rfl, hB⟩

theorem Own.clip {α : Type} {enc : α → List Value} {size : Nat} {e : TypeId} {w : World} {base : Nat} {A : Option Addr} {n c : Nat} {xs : List α} (h : Own enc size e w base (.slice A n c) xs) : Own enc size e w base (.slice A n n) xs := by
  rcases h with ⟨rfl, A', h⟩ | ⟨b, cap, cur, hv, hb, hp, h1, h2, hg, hs, ht⟩
  · injection h with h1 h2 h3
    subst h2
    exact .inl ⟨rfl, _, rfl⟩
  · injection hv with h3 h4 h5
    subst h3; subst h4
    rcases Nat.eq_zero_or_pos xs.length with h0 | h0
    · have : xs = [] := List.eq_nil_of_length_eq_zero h0
      subst this
      exact .inl ⟨rfl, _, rfl⟩
    · exact .inr ⟨b, xs.length, cur, rfl, hb, h0, Nat.le_refl _, Nat.le_trans h1 h2, hg, Nat.le_trans (Nat.mul_le_mul_right _ h1) hs, ht⟩

theorem rises_ok (w : World) (v : Value) (xs : List Int) (h : Ints w w.heap.size v xs) (hn : xs.Nodup) (hl : xs.length ≤ 1000000) :
    Calls Try.prog 99 #[v] w fun e w' => ∃ v' ys, e = .returned v' ∧ Own encI 1 3 w' w.heap.size v' ys ∧ Below w.heap.size w w' ∧ Strict ys ∧ ∀ s, s ∈ ys ↔ s ∈ xs := by
  have hc := clone_int v xs w h hl
  have hst : Strict (xs.mergeSort (fun x y => decide (x ≤ y))) := by
    have h1 : (xs.mergeSort (fun x y => decide (x ≤ y))).Pairwise (fun a b => (decide (a ≤ b)) = true) := List.pairwise_mergeSort (by intro a b c; simp; omega) (by intro a b; simp; omega) xs
    have h2 : (xs.mergeSort (fun x y => decide (x ≤ y))).Nodup := (List.mergeSort_perm xs _).nodup_iff.2 hn
    refine (h1.and h2).imp ?_
    intro a b hab
    have := hab.1
    have := hab.2
    simp at *
    omega
  have hmem : ∀ s, s ∈ xs.mergeSort (fun x y => decide (x ≤ y)) ↔ s ∈ xs := fun s => List.mem_mergeSort
  have hlen : (xs.mergeSort (fun x y => decide (x ≤ y))).length = xs.length := List.length_mergeSort ..
  generalize hys : xs.mergeSort (fun x y => decide (x ≤ y)) = ys at hst hmem hlen
  obtain ⟨A0, c, rfl, _⟩ := id h
  go_enter Try.func99, Try.ntmps99
  go_wp2_with first
    | (go_at_call 37; refine hc.mono ?_; rintro e w1 ⟨v1, rfl, ho1, hb1⟩; obtain ⟨A1, c1, rfl, hle1⟩ := ho1.form)
    | (go_at_call 119; have hso := sort_own _ _ _ _ ho1 hl; rw [hys] at hso; refine hso.mono ?_; rintro e w2 ⟨rfl, ho2, hg2⟩)
    | (go_at_call 120; refine (compact_strict _ _ _ (ho2.sl encI_len) hst (by omega)).mono ?_; rintro e w3 ⟨rfl, hb3⟩)
  go_ret
  have h12 : Below w.heap.size w w2 := hb1.grown hg2 hb1.size (fun k hk => (ho1.lt k hk).1)
  refine ⟨_, ys, rfl, ?_, h12.trans (hb3.mono h12.size), hst, hmem⟩
  rw [← hlen]
  have := (ho2.below hb3).clip
  rwa [← hlen] at this
end Go.Proofs.Ytakldmbbmefnbaa
