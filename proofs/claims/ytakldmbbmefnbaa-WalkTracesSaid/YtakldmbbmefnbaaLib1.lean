/- slices.Clone: a row of its own. -/
import Derived.Test.YtakldmbbmefnbaaProg
import Derived.Test.YtakldmbbmefnbaaData
namespace Go.Proofs.Ytakldmbbmefnbaa
open Go.RowKit

theorem info_int : (Try.prog.info? 3).map (fun i => (i.zero, i.size, i.bytes)) = some (some (.int .i64 0), 1, 8) := by kernel_rfl

theorem clone_int (v : Value) (xs : List Int) (w : World) (h : Sl encI 1 w w.heap.size v xs) (hn : xs.length ≤ 1000000) :
    Calls Try.prog 37 #[v] w (fun r w' => ∃ v', r = .returned v' ∧ Own encI 1 3 w' w.heap.size v' xs ∧ Below w.heap.size w w') := by
  obtain ⟨i0, hi, hz0, hz1, hz2⟩ := info_parts info_int
  obtain ⟨A, c, rfl, hr⟩ := id h
  have hnil := fun (w : World) (A : Option Addr) (n c : Nat) => Lib.run_eql_slice_nil (P := Try.prog) w _ _ A n c 0 0 Try.underlying22
  go_enter Try.func37, Try.ntmps37
  cases A with
  | none =>
    have hx : xs = [] := by
      rcases Nat.eq_zero_or_pos xs.length with h0 | h0
      · exact List.eq_nil_of_length_eq_zero h0
      · obtain ⟨_, _, h, _⟩ := hr h0; cases h
    subst hx
    go_wp2
    go_ret
    exact ⟨_, rfl, Own.nil none, Below.refl _ _⟩
  | some ad =>
    go_wp2_with (at_builtin; refine wpList_append_my _ rfl (.tmp 5) (.tmp 6) 22 rfl encI_len encI_one 3 i0 _ Try.underlying22 hi hz0 hz1 hz2 rfl (by decide) (base := w.heap.size) rfl (xs := []) (Own.nil _) rfl (h.below ((Below.refl _ w).alloc (Nat.le_refl _) _) (Nat.le_refl _)) (by simp; omega) (by simp; omega) (by simp) ?_; intro v1 w1 hown1 hg1 hb1 hl1)
    go_ret
    exact ⟨_, rfl, by simpa using hown1, ((Below.refl _ w).alloc (Nat.le_refl _) _).trans hl1⟩
theorem info_edge : (Try.prog.info? 55).map (fun i => (i.zero, i.size, i.bytes)) = some (some ((.agg #[.int .i64 0, .int .i64 0, .bool false, .int .u64 0, .int .u64 0, .int .u64 0, .int .u64 0])), 7, 56) := by kernel_rfl

theorem clone_edge (v : Value) (xs : List E) (w : World) (h : Sl encE 7 w w.heap.size v xs) (hn : xs.length ≤ 1000000) :
    Calls Try.prog 38 #[v] w (fun r w' => ∃ v', r = .returned v' ∧ Own encE 7 55 w' w.heap.size v' xs ∧ Below w.heap.size w w') := by
  obtain ⟨i0, hi, hz0, hz1, hz2⟩ := info_parts info_edge
  obtain ⟨A, c, rfl, hr⟩ := id h
  have hnil := fun (w : World) (A : Option Addr) (n c : Nat) => Lib.run_eql_slice_nil (P := Try.prog) w _ _ A n c 0 0 Try.underlying23
  go_enter Try.func38, Try.ntmps38
  cases A with
  | none =>
    have hx : xs = [] := by
      rcases Nat.eq_zero_or_pos xs.length with h0 | h0
      · exact List.eq_nil_of_length_eq_zero h0
      · obtain ⟨_, _, h, _⟩ := hr h0; cases h
    subst hx
    go_wp2
    go_ret
    exact ⟨_, rfl, Own.nil none, Below.refl _ _⟩
  | some ad =>
    go_wp2_with (at_builtin; refine wpList_append_my _ rfl (.tmp 5) (.tmp 6) 23 rfl encE_len encE_one 55 i0 _ Try.underlying23 hi hz0 hz1 hz2 rfl (by decide) (base := w.heap.size) rfl (xs := []) (Own.nil _) rfl (h.below ((Below.refl _ w).alloc (Nat.le_refl _) _) (Nat.le_refl _)) (by simp; omega) (by simp; omega) (by simp) ?_; intro v1 w1 hown1 hg1 hb1 hl1)
    go_ret
    exact ⟨_, rfl, by simpa using hown1, ((Below.refl _ w).alloc (Nat.le_refl _) _).trans hl1⟩
end Go.Proofs.Ytakldmbbmefnbaa
