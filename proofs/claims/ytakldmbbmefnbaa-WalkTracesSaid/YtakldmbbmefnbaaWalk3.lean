/- walk: the rows of where one comes to, of the closure. -/
import Derived.Test.YtakldmbbmefnbaaWalk2
import Derived.Test.YtakldmbbmefnbaaRegion2
namespace Go.Proofs.Ytakldmbbmefnbaa
open Go.RowKit

theorem info_ints : (Try.prog.info? 22).map (fun i => (i.zero, i.size, i.bytes)) = some (some (.slice none 0 0), 1, 24) := by kernel_rfl
theorem info_bool : (Try.prog.info? 4).map (fun i => (i.zero, i.size, i.bytes)) = some (some (.bool false), 1, 1) := by kernel_rfl

/-- Where the pairs lead from i. -/
def nexts (ps : List (Int × Int)) (i : Int) : List Int := (ps.filter (fun q => q.1 == i)).map (·.2)
theorem nexts_same (ps : List (Int × Int)) (i s : Int) : nexts (ps ++ [(i, s)]) i = nexts ps i ++ [s] := by simp [nexts]
theorem nexts_other (ps : List (Int × Int)) {i j : Int} (s : Int) (h : i ≠ j) : nexts (ps ++ [(i, s)]) j = nexts ps j := by simp [nexts, h]
theorem nexts_len (ps : List (Int × Int)) (i : Int) : (nexts ps i).length ≤ ps.length := by unfold nexts; rw [List.length_map]; exact List.length_filter_le _ _
theorem mem_nexts {ps : List (Int × Int)} {i s : Int} : s ∈ nexts ps i ↔ (i, s) ∈ ps := by
  unfold nexts
  simp only [List.mem_map, List.mem_filter, beq_iff_eq]
  constructor
  · rintro ⟨⟨a, b⟩, ⟨h, rfl⟩, rfl⟩; exact h
  · intro h; exact ⟨(i, s), ⟨h, rfl⟩, rfl⟩

/-- The rows: gn is the block of the rows' values. -/
structure Rows (w : World) (base gn n : Nat) (rows : List Value) (ps : List (Int × Int)) : Prop where
  len : rows.length = n
  g : w.heap[gn]? = some (.cells rows.toArray 22 (0, 0))
  own : ∀ i (h : i < rows.length), Own encI 1 3 w base rows[i] (nexts ps i)
  apart : ∀ i j (hi : i < rows.length) (hj : j < rows.length), i ≠ j → ∀ k, blk rows[i] = some k → blk rows[j] ≠ some k

theorem Rows.near {w w' : World} {base gn n B : Nat} {rows : List Value} {ps : List (Int × Int)} (h : Rows w base gn n rows ps) (hn : Near B w w') : Rows w' base gn n rows ps :=
  ⟨h.len, hn.cells h.g, fun i hi => hn.own (h.own i hi), h.apart⟩

/-- One row grows by one. -/
theorem Rows.put {w w1 : World} {base gn n : Nat} {rows : List Value} {ps : List (Int × Int)} (h : Rows w base gn n rows ps) {i : Nat} (hi : i < rows.length) {s : Int} {v' : Value}
    (ho : Own encI 1 3 w1 base v' (nexts ps i ++ [s])) (hg : w.grownBy w1 (blk rows[i])) (hv : blk v' = blk rows[i] ∨ (∃ k, w.heap.size ≤ k ∧ blk v' = some k) ∨ blk v' = none) :
    Rows (w1.setCell ⟨gn, i, none⟩ v') base gn n (rows.set i v') (ps ++ [((i : Int), s)]) := by
  have hne := own_ne (h.own i hi) h.g (by decide)
  have hgl : gn < w.heap.size := (Array.getElem?_eq_some_iff.1 h.g).1
  have g1 : w1.heap[gn]? = _ := (hg.block gn hgl (fun e => hne e.symm)).trans h.g
  refine ⟨by simp [h.len], ?_, ?_, ?_⟩
  · rw [heap_set g1]; simp
  · intro j hj
    have hj' : j < rows.length := by simpa using hj
    by_cases e : i = j
    · subst e
      rw [nexts_same, List.getElem_set_self]
      exact ho.setCell (own_ne ho g1 (by decide)) _
    · rw [nexts_other _ _ (by omega), List.getElem_set_ne e]
      have h1 := (h.own j hj').kept hg (fun k hk hk2 => h.apart i j hi hj' e k hk2 hk)
      exact h1.setCell (own_ne h1 g1 (by decide)) _
  · intro a b ha hb hab k hk
    have ha' : a < rows.length := by simpa using ha
    have hb' : b < rows.length := by simpa using hb
    have new : ∀ j (hj : j < rows.length), i ≠ j → ∀ k, blk v' = some k → blk rows[j] ≠ some k := by
      intro j hj hij k hk hk2
      rcases hv with hv | ⟨k', hk', hv⟩ | hv
      · exact h.apart i j hi hj hij k (hv ▸ hk) hk2
      · rw [hv] at hk; cases hk
        have := ((h.own j hj).lt _ hk2).2
        omega
      · rw [hv] at hk; cases hk
    by_cases e : i = a
    · subst e
      rw [List.getElem_set_self] at hk
      rw [List.getElem_set_ne hab]
      exact new b hb' hab k hk
    · rw [List.getElem_set_ne e] at hk
      by_cases e2 : i = b
      · subst e2
        rw [List.getElem_set_self]
        intro hk2
        exact new a ha' e k hk2 hk
      · rw [List.getElem_set_ne e2]
        exact h.apart a b ha' hb' hab k hk

theorem rows_start {w : World} {base gn n : Nat} (hg : w.heap[gn]? = some (.cells (madeCells #[.slice none 0 0] n) 22 (0, 0))) : Rows w base gn n (List.replicate n (.slice none 0 0)) [] := by
  refine ⟨by simp, ?_, ?_, ?_⟩
  · rw [hg]
    have : (madeCells #[Value.slice none 0 0] n) = (List.replicate n (.slice none 0 0)).toArray := by
      rw [← toList_madeCells_one]
    rw [this]
  · intro i hi
    simp only [List.getElem_replicate]
    exact Own.nil ..
  · intro i j hi hj _ k hk
    simp [blk] at hk

/-- How an edge leads. -/
def turned (back : Bool) (e : E) : Int × Int := if back then (e.dst, e.src) else (e.src, e.dst)
def A.pairs (a : A) (back : Bool) (p : E → Bool) : List (Int × Int) := (a.edges.filter p).map (turned back)
end Go.Proofs.Ytakldmbbmefnbaa
