/- the law's own functions: three. -/
import Derived.Test.YtakldmbbmefnbaaBits
namespace Go.Proofs.Ytakldmbbmefnbaa
open Go.RowKit Go.Sort Go.Proofs
set_option maxRecDepth 100000
set_option maxHeartbeats 400000

def sAB : BSet := ⟨0#64, 0x600000000#64, 0#64, 0#64⟩
def sC : BSet := ⟨0#64, 0x800000000#64, 0#64, 0#64⟩
def s0 : BSet := ⟨0#64, 0#64, 0#64, 0#64⟩
/-- The chapter's automaton. -/
def three : A := ⟨3, [0], [2], [⟨0, 1, true, s0⟩, ⟨1, 2, false, sAB⟩, ⟨2, 0, true, s0⟩, ⟨2, 2, false, sC⟩]⟩

theorem three_ok (w : World) :
    Calls Try.prog 36 #[] w (fun r w' => (∃ vs vf ve, r = .returned (vA three vs vf ve) ∧ FaAt w' w'.heap.size three vs vf ve) ∧ Below w.heap.size w w') := by
  have hab : ∀ W : World, Calls Try.prog 86 #[.string ⟨#[97, 98]⟩] W (fun r w' => r = .returned (.agg #[.int .u64 0, .int .u64 25769803776, .int .u64 0, .int .u64 0]) ∧ Below W.heap.size W w') := bits_ab
  have hc : ∀ W : World, Calls Try.prog 86 #[.string ⟨#[99]⟩] W (fun r w' => r = .returned (.agg #[.int .u64 0, .int .u64 34359738368, .int .u64 0, .int .u64 0]) ∧ Below W.heap.size W w') := bits_c
  obtain ⟨W1, hW1⟩ : ∃ W1, w.alloc (.cells #[.int .i64 0, .slice none 0 0, .slice none 0 0, .slice none 0 0] 25) = W1 := ⟨_, rfl⟩
  obtain ⟨W2, hW2⟩ : ∃ W2, W1.alloc (.cells #[.int .i64 0] 3) = W2 := ⟨_, rfl⟩
  obtain ⟨W3, hW3⟩ : ∃ W3, W2.alloc (.cells #[.int .i64 2] 3) = W3 := ⟨_, rfl⟩
  have k1 : Below w.heap.size w W1 := hW1 ▸ alloc1 w _
  have k2 : Below W1.heap.size W1 W2 := hW2 ▸ alloc1 W1 _
  have k3 : Below W2.heap.size W2 W3 := hW3 ▸ alloc1 W2 _
  have z1 : W1.heap.size = w.heap.size + 1 := by rw [← hW1]; simp
  have z2 : W2.heap.size = W1.heap.size + 1 := by rw [← hW2]; simp
  have z3 : W3.heap.size = W2.heap.size + 1 := by rw [← hW3]; simp
  have b0 : W3.heap[w.heap.size]? = some (.cells #[.int .i64 0, .slice none 0 0, .slice none 0 0, .slice none 0 0] 25 (0, 0)) := by
    rw [k3.block _ (by omega), k2.block _ (by omega), ← hW1]; exact heap_alloc_new w _
  have b1 : W3.heap[W1.heap.size]? = some (.cells #[.int .i64 0] 3 (0, 0)) := by
    rw [k3.block _ (by omega), ← hW2]; exact heap_alloc_new W1 _
  have b2 : W3.heap[W2.heap.size]? = some (.cells #[.int .i64 2] 3 (0, 0)) := by rw [← hW3]; exact heap_alloc_new W2 _
  have HZ := Lib.hid (And.intro z1 (And.intro z2 z3))
  clear z1 z2 z3
  go_enter Try.func36, Try.ntmps36
  go_wp2_with fail
  refine (hab _).mono ?_
  rintro e w1 ⟨rfl, d1⟩
  go_wp2_with fail
  refine (hc _).mono ?_
  rintro e w2 ⟨rfl, d2⟩
  have d12 := below_next d1 d2
  have a0 := (d12.block _ (Array.getElem?_eq_some_iff.1 b0).1).trans b0
  have a1 := (d12.block _ (Array.getElem?_eq_some_iff.1 b1).1).trans b1
  have a2 := (d12.block _ (Array.getElem?_eq_some_iff.1 b2).1).trans b2
  have hla := (Array.getElem?_eq_some_iff.1 a0).1
  have c0 := cell_at a0 0; have c1 := cell_at a0 1; have c2 := cell_at a0 2; have c3 := cell_at a0 3
  have g0 := free_at a0 0; have g1 := free_at a0 1; have g2 := free_at a0 2; have g3 := free_at a0 3
  simp only [List.getElem?_toArray, List.getElem?_cons_zero, List.getElem?_cons_succ] at c0 c1 c2 c3
  go_wp2
  have hz := HZ.out
  have hs12 := d12.size
  obtain ⟨es, hes⟩ : ∃ es : Array Value, es = #[.int .i64 0, .int .i64 1, .bool true, .int .u64 0, .int .u64 0, .int .u64 0, .int .u64 0, .int .i64 1, .int .i64 2, .bool false, .int .u64 0, .int .u64 25769803776, .int .u64 0, .int .u64 0,
    .int .i64 2, .int .i64 0, .bool true, .int .u64 0, .int .u64 0, .int .u64 0, .int .u64 0, .int .i64 2, .int .i64 2, .bool false, .int .u64 0, .int .u64 34359738368, .int .u64 0, .int .u64 0] := ⟨_, rfl⟩
  rw [← hes]
  obtain ⟨W4, hW4⟩ : ∃ W4, (((w2.setCell ⟨w.heap.size, 0, none⟩ (.int .i64 3)).setCell ⟨w.heap.size, 1, none⟩ (.slice (some ⟨W1.heap.size, 0, none⟩) 1 1)).setCell ⟨w.heap.size, 2, none⟩ (.slice (some ⟨W2.heap.size, 0, none⟩) 1 1)).setCell ⟨w.heap.size, 3, none⟩ (.slice (some ⟨w2.heap.size, 0, none⟩) 4 4) = W4 := ⟨_, rfl⟩
  rw [hW4]
  have s4 : W4.heap.size = w2.heap.size := by rw [← hW4]; simp [World.setCell]
  have f0 : W4.heap[w.heap.size]? = some (.cells #[.int .i64 3, .slice (some ⟨W1.heap.size, 0, none⟩) 1 1, .slice (some ⟨W2.heap.size, 0, none⟩) 1 1, .slice (some ⟨w2.heap.size, 0, none⟩) 4 4] 25 (0, 0)) := by
    rw [← hW4]; exact heap_set (heap_set (heap_set (heap_set a0 0 _) 1 _) 2 _) 3 _
  have f1 : W4.heap[W1.heap.size]? = some (.cells #[.int .i64 0] 3 (0, 0)) := by
    rw [← hW4, Below.heap_setCell _ _ _ _ (by show W1.heap.size ≠ w.heap.size; omega), Below.heap_setCell _ _ _ _ (by show W1.heap.size ≠ w.heap.size; omega), Below.heap_setCell _ _ _ _ (by show W1.heap.size ≠ w.heap.size; omega), Below.heap_setCell _ _ _ _ (by show W1.heap.size ≠ w.heap.size; omega)]; exact a1
  have f2 : W4.heap[W2.heap.size]? = some (.cells #[.int .i64 2] 3 (0, 0)) := by
    rw [← hW4, Below.heap_setCell _ _ _ _ (by show W2.heap.size ≠ w.heap.size; omega), Below.heap_setCell _ _ _ _ (by show W2.heap.size ≠ w.heap.size; omega), Below.heap_setCell _ _ _ _ (by show W2.heap.size ≠ w.heap.size; omega), Below.heap_setCell _ _ _ _ (by show W2.heap.size ≠ w.heap.size; omega)]; exact a2
  have hbw : Below w.heap.size w w2 := below_next k1 (below_next k2 (below_next k3 d12))
  have hb4 : Below w.heap.size w W4 := by
    rw [← hW4]
    exact (((hbw.setCell (Nat.le_refl _) _).setCell (Nat.le_refl _) _).setCell (Nat.le_refl _) _).setCell (Nat.le_refl _) _
  have ha4 : Below W4.heap.size W4 (W4.alloc (.cells es 55)) := alloc1 W4 _
  have g0' := (ha4.block _ (Array.getElem?_eq_some_iff.1 f0).1).trans f0
  have g1' := (ha4.block _ (Array.getElem?_eq_some_iff.1 f1).1).trans f1
  have g2' := (ha4.block _ (Array.getElem?_eq_some_iff.1 f2).1).trans f2
  have g3' : (W4.alloc (.cells es 55)).heap[w2.heap.size]? = some (.cells es 55 (0, 0)) := by rw [← s4]; exact heap_alloc_new W4 _
  have r0 := cell_at g0' 0; have r1 := cell_at g0' 1; have r2 := cell_at g0' 2; have r3 := cell_at g0' 3
  simp only [List.getElem?_toArray, List.getElem?_cons_zero, List.getElem?_cons_succ] at r0 r1 r2 r3
  have o1 : Own encI 1 3 (W4.alloc (.cells es 55)) 0 (.slice (some ⟨W1.heap.size, 0, none⟩) 1 1) three.start := .inr ⟨_, 1, _, rfl, Nat.zero_le _, by decide, by decide, by decide, g1', by decide, rfl⟩
  have o2 : Own encI 1 3 (W4.alloc (.cells es 55)) 0 (.slice (some ⟨W2.heap.size, 0, none⟩) 1 1) three.final := .inr ⟨_, 1, _, rfl, Nat.zero_le _, by decide, by decide, by decide, g2', by decide, rfl⟩
  have o3 : Own encE 7 55 (W4.alloc (.cells es 55)) 0 (.slice (some ⟨w2.heap.size, 0, none⟩) 4 4) three.edges := .inr ⟨_, 4, es, rfl, Nat.zero_le _, by decide, by decide, by decide, g3', by rw [hes]; decide, by rw [hes]; rfl⟩
  refine ⟨rfl, vA three (.slice (some ⟨W1.heap.size, 0, none⟩) 1 1) (.slice (some ⟨W2.heap.size, 0, none⟩) 1 1) (.slice (some ⟨w2.heap.size, 0, none⟩) 4 4), ?_, ⟨_, _, _, rfl, ⟨o1.sl encI_len, o2.sl encI_len, o3.sl encE_len⟩⟩, hb4.trans (ha4.mono hb4.size)⟩
  simp [results, Try.results36, go_sem, r0, r1, r2, r3, vA, three]
end Go.Proofs.Ytakldmbbmefnbaa
