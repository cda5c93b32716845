/- the law's own functions: bits. -/
import Derived.Test.YtakldmbbmefnbaaWalk17
import Derived.Handy
namespace Go.Proofs.Ytakldmbbmefnbaa
open Go.RowKit Go.Sort Go.Proofs
set_option maxRecDepth 100000
set_option maxHeartbeats 1000000

theorem bits_c (w : World) :
    Calls Try.prog 86 #[.string ⟨#[99]⟩] w (fun r w' => r = .returned (vS ⟨0#64, 0x800000000#64, 0#64, 0#64⟩) ∧ Below w.heap.size w w') := by
  obtain ⟨W2, hW2⟩ : ∃ W2, (w.alloc (.cells #[.int .u64 0, .int .u64 0, .int .u64 0, .int .u64 0] 53)).alloc (.cells #[.int .u64 0, .int .u64 0, .int .u64 0, .int .u64 0] 53) = W2 := ⟨_, rfl⟩
  obtain ⟨cc, W3, hconv, d3, z3, hby, hcc⟩ := conv_bytes W2 [99]
  have b2 : W2.heap[w.heap.size + 1]? = some (.cells #[.int .u64 0, .int .u64 0, .int .u64 0, .int .u64 0] 53 (0, 0)) := by
    rw [← hW2]; have := heap_alloc_new (w.alloc (.cells #[.int .u64 0, .int .u64 0, .int .u64 0, .int .u64 0] 53)) (.cells #[.int .u64 0, .int .u64 0, .int .u64 0, .int .u64 0] 53); rwa [World.size_alloc] at this
  have b1 : W2.heap[w.heap.size]? = some (.cells #[.int .u64 0, .int .u64 0, .int .u64 0, .int .u64 0] 53 (0, 0)) := by
    rw [← hW2, Below.heap_alloc _ _ _ (by simp)]; exact heap_alloc_new w _
  have c2 := (d3.block _ (Array.getElem?_eq_some_iff.1 b2).1).trans b2
  have c1 := (d3.block _ (Array.getElem?_eq_some_iff.1 b1).1).trans b1
  have hs : W2.heap.size = w.heap.size + 2 := by rw [← hW2]; simp
  have q0 := cell_at c2 0; have q1 := cell_at c2 1; have q2 := cell_at c2 2; have q3 := cell_at c2 3
  have p0 := cell_at c1 0; have p1 := cell_at c1 1; have p2 := cell_at c1 2; have p3 := cell_at c1 3
  have g0 := free_at c2 0; have g1 := free_at c2 1; have g2 := free_at c2 2; have g3 := free_at c2 3
  have h0 := free_at c1 0; have h1 := free_at c1 1; have h2 := free_at c1 2; have h3 := free_at c1 3
  have hb0 := hby 0 (by decide)
  simp only [List.getElem?_toArray, List.getElem?_cons_zero, List.getElem?_cons_succ, List.getElem_cons_zero] at q0 q1 q2 q3 p0 p1 p2 p3 hb0
  have hn : (UInt8.toNat 99 : Int) = 99 := by decide
  rw [hn] at hb0
  have hor : bits BinOp.or IntKind.u64 0 34359738368 = 34359738368 := by kernel_rfl
  have HS := Lib.hid (And.intro hs (And.intro d3 z3))
  clear hby hn b1 b2 c1 c2 hs d3 z3
  go_enter Try.func86, Try.ntmps86
  go_wp2
  go_rounds 3
  have hsz := HS.out
  refine ⟨rfl, vS ⟨0#64, 0x800000000#64, 0#64, 0#64⟩, ?_, rfl, ?_⟩
  · simp [results, Try.results86, go_sem, p0, p1, p2, p3, vS]
  · have h := below_next (below_next (alloc1 w (.cells #[.int .u64 0, .int .u64 0, .int .u64 0, .int .u64 0] 53)) (alloc1 _ (.cells #[.int .u64 0, .int .u64 0, .int .u64 0, .int .u64 0] 53))) (hW2 ▸ hsz.2.1)
    repeat' (first | with_reducible refine Below.setCell ?_ ?_ _ | with_reducible exact h)
    all_goals first | (show w.heap.size ≤ w.heap.size; omega) | (show w.heap.size ≤ w.heap.size + 1; omega)
theorem bits_ab (w : World) :
    Calls Try.prog 86 #[.string ⟨#[97, 98]⟩] w (fun r w' => r = .returned (vS ⟨0#64, 0x600000000#64, 0#64, 0#64⟩) ∧ Below w.heap.size w w') := by
  obtain ⟨W2, hW2⟩ : ∃ W2, (w.alloc (.cells #[.int .u64 0, .int .u64 0, .int .u64 0, .int .u64 0] 53)).alloc (.cells #[.int .u64 0, .int .u64 0, .int .u64 0, .int .u64 0] 53) = W2 := ⟨_, rfl⟩
  obtain ⟨cc, W3, hconv, d3, z3, hby, hcc⟩ := conv_bytes W2 [97, 98]
  have b2 : W2.heap[w.heap.size + 1]? = some (.cells #[.int .u64 0, .int .u64 0, .int .u64 0, .int .u64 0] 53 (0, 0)) := by
    rw [← hW2]; have := heap_alloc_new (w.alloc (.cells #[.int .u64 0, .int .u64 0, .int .u64 0, .int .u64 0] 53)) (.cells #[.int .u64 0, .int .u64 0, .int .u64 0, .int .u64 0] 53); rwa [World.size_alloc] at this
  have b1 : W2.heap[w.heap.size]? = some (.cells #[.int .u64 0, .int .u64 0, .int .u64 0, .int .u64 0] 53 (0, 0)) := by
    rw [← hW2, Below.heap_alloc _ _ _ (by simp)]; exact heap_alloc_new w _
  have c2 := (d3.block _ (Array.getElem?_eq_some_iff.1 b2).1).trans b2
  have c1 := (d3.block _ (Array.getElem?_eq_some_iff.1 b1).1).trans b1
  have hs : W2.heap.size = w.heap.size + 2 := by rw [← hW2]; simp
  have q0 := cell_at c2 0; have q1 := cell_at c2 1; have q2 := cell_at c2 2; have q3 := cell_at c2 3
  have p0 := cell_at c1 0; have p1 := cell_at c1 1; have p2 := cell_at c1 2; have p3 := cell_at c1 3
  have g0 := free_at c2 0; have g1 := free_at c2 1; have g2 := free_at c2 2; have g3 := free_at c2 3
  have h0 := free_at c1 0; have h1 := free_at c1 1; have h2 := free_at c1 2; have h3 := free_at c1 3
  have hb0 := hby 0 (by decide)
  have hb1 := hby 1 (by decide)
  simp only [List.getElem?_toArray, List.getElem?_cons_zero, List.getElem?_cons_succ, List.getElem_cons_zero, List.getElem_cons_succ] at q0 q1 q2 q3 p0 p1 p2 p3 hb0 hb1
  have hn : (UInt8.toNat 97 : Int) = 97 := by decide
  have hn2 : (UInt8.toNat 98 : Int) = 98 := by decide
  rw [hn] at hb0
  rw [hn2] at hb1
  rw [hs] at hb0 hb1 hconv
  have hor : bits BinOp.or IntKind.u64 0 8589934592 = 8589934592 := by kernel_rfl
  have hor2 : bits BinOp.or IntKind.u64 8589934592 17179869184 = 25769803776 := by kernel_rfl
  have HS := Lib.hid (And.intro hs (And.intro d3 z3))
  clear hby hn hn2 b1 b2 c1 c2 hs d3 z3
  go_enter Try.func86, Try.ntmps86
  go_wp2
  go_rounds 4
  have hsz := HS.out
  refine ⟨rfl, vS ⟨0#64, 0x600000000#64, 0#64, 0#64⟩, ?_, rfl, ?_⟩
  · simp [results, Try.results86, go_sem, p0, p1, p2, p3, vS]
  · have h := below_next (below_next (alloc1 w (.cells #[.int .u64 0, .int .u64 0, .int .u64 0, .int .u64 0] 53)) (alloc1 _ (.cells #[.int .u64 0, .int .u64 0, .int .u64 0, .int .u64 0] 53))) (hW2 ▸ hsz.2.1)
    repeat' (first | with_reducible refine Below.setCell ?_ ?_ _ | with_reducible exact h)
    all_goals first | (show w.heap.size ≤ w.heap.size; omega) | (show w.heap.size ≤ w.heap.size + 1; omega)
end Go.Proofs.Ytakldmbbmefnbaa
