/- walk: the closure by which states are met. -/
import Derived.Test.YtakldmbbmefnbaaWalk1
import Derived.Test.YtakldmbbmefnbaaLib1
namespace Go.Proofs.Ytakldmbbmefnbaa
open Go.RowKit

def meet (ws : List Int) (s : Int) : List Int := if ws.contains s then ws else ws ++ [s]

/-- Which of the first n numbers are among ws. -/
def marks (n : Nat) (ws : List Int) : List Bool := (List.range n).map fun (i : Nat) => ws.contains (i : Int)

theorem marks_len (n : Nat) (ws : List Int) : (marks n ws).length = n := by simp [marks]
theorem marks_get {n i : Nat} (ws : List Int) (h : i < n) : (marks n ws)[i]? = some (ws.contains (i : Int)) := by simp [marks, h]
theorem marks_set {n i : Nat} (ws : List Int) (h : i < n) (hc : ws.contains (i : Int) = false) : (marks n ws).set i true = marks n (meet ws i) := by
  apply List.ext_getElem?
  intro j
  rw [List.getElem?_set]
  by_cases hj : j < n
  · by_cases e : i = j
    · subst e
      rw [if_pos rfl, if_pos (by rw [marks_len]; exact h), marks_get _ h]
      unfold meet
      rw [if_neg (by rw [hc]; decide)]
      simp
    · rw [if_neg e, marks_get _ hj, marks_get _ hj]
      unfold meet
      rw [if_neg (by rw [hc]; decide)]
      have : ¬ ((j : Int) = (i : Int)) := by omega
      simp [this]
  · rw [List.getElem?_eq_none (by rw [marks_len]; omega), if_neg (fun e : i = j => hj (by omega)), List.getElem?_eq_none (by rw [marks_len]; omega)]

/-- The two rows that the closure writes: bi, bw are the blocks of the variables, gin the marks' block. -/
structure Met (w : World) (n bi gin bw base : Nat) (ws : List Int) (vw : Value) : Prop where
  i : w.heap[bi]? = some (.cells #[.slice (some ⟨gin, 0, none⟩) n n] 121 (0, 0))
  g : w.heap[gin]? = some (.cells ((marks n ws).map Value.bool).toArray 4 (0, 0))
  v : w.heap[bw]? = some (.cells #[vw] 22 (0, 0))
  o : Own encI 1 3 w base vw ws

theorem cell_at {w : World} {b : Nat} {cs : Array Value} {t : TypeId} (h : w.heap[b]? = some (.cells cs t (0, 0))) (i : Nat) : w.cell? ⟨b, i, none⟩ = cs[i]? := by
  unfold World.cell?; rw [h]; rfl
theorem free_at {w : World} {b : Nat} {cs : Array Value} {t : TypeId} (h : w.heap[b]? = some (.cells cs t (0, 0))) (i : Nat) : w.frozen? ⟨b, i, none⟩ = false := by
  unfold World.frozen?; rw [h]; simp
theorem heap_set {w : World} {b : Nat} {cs : Array Value} {t : TypeId} (h : w.heap[b]? = some (.cells cs t (0, 0))) (i : Nat) (u : Value) : (w.setCell ⟨b, i, none⟩ u).heap[b]? = some (.cells (cs.setIfInBounds i u) t (0, 0)) := by
  simp [World.setCell, Array.getElem?_modify, h]
theorem ne_type {w : World} {b b' : Nat} {cs cs' : Array Value} {t t' : TypeId} {z z' : Nat × Nat} (h : w.heap[b]? = some (.cells cs t z)) (h' : w.heap[b']? = some (.cells cs' t' z')) (hne : t ≠ t') : b ≠ b' := by
  rintro rfl
  rw [h] at h'
  injection h' with h'
  injection h' with _ ht _
  exact hne ht
theorem own_ne {α : Type} {enc : α → List Value} {size : Nat} {e t : TypeId} {w : World} {base b : Nat} {v : Value} {xs : List α} {cs : Array Value} {z : Nat × Nat} (h : Own enc size e w base v xs) (hb : w.heap[b]? = some (.cells cs t z)) (hne : e ≠ t) : blk v ≠ some b := by
  rcases h with ⟨rfl, A, rfl⟩ | ⟨b', cap, cur, rfl, _, hp, _, _, hg, _⟩
  · cases A <;> simp [blk]
  · obtain ⟨m, rfl⟩ : ∃ m, cap = m + 1 := ⟨cap - 1, by omega⟩
    intro he
    simp [blk] at he
    exact ne_type hg hb hne he

theorem Own.setCell {α : Type} {enc : α → List Value} {size : Nat} {e : TypeId} {w : World} {base : Nat} {v : Value} {xs : List α} (h : Own enc size e w base v xs) {p : Addr} (hp : blk v ≠ some p.block) (u : Value) : Own enc size e (w.setCell p u) base v xs :=
  h.kept (row := some p.block) ⟨rfl, rfl, rfl, by simp [World.setCell], fun k _ hne => Below.heap_setCell w p u k (fun e => hne (by rw [e]))⟩ (fun k hk e => hp (by rw [hk, e]))

theorem meet_seen (n bi gin bw base : Nat) (ws : List Int) (vw : Value) (s : Nat) (hs : s < n) (hc : ws.contains (s : Int) = true) (w : World) (h : Met w n bi gin bw base ws vw) :
    Calls Try.prog 98 #[.int .i64 s, pw bi, pw bw] w (fun r w' => r = .returned (.tuple #[]) ∧ w' = w) := by
  have c1 := cell_at h.i 0
  have c2 : w.cell? ⟨gin, s, none⟩ = some (.bool true) := by rw [cell_at h.g]; simp [marks_get ws hs, -List.contains_eq_mem]; exact hc
  simp only [List.getElem?_toArray, List.getElem?_cons_zero] at c1
  clear hc h
  go_enter Try.func98, Try.ntmps98
  go_wp2
  go_end0
  exact ⟨rfl, rfl⟩
theorem meet_new (n bi gin bw base : Nat) (ws : List Int) (vw : Value) (s : Nat) (hs : s < n) (hwl : ws.length ≤ 1000000) (hc : ws.contains (s : Int) = false) (w : World) (h : Met w n bi gin bw base ws vw) (hbase : base ≤ w.heap.size) :
    Calls Try.prog 98 #[.int .i64 s, pw bi, pw bw] w (fun r w' => r = .returned (.tuple #[]) ∧ ∃ vw', Met w' n bi gin bw base (meet ws s) vw' ∧ But (fun k => k = gin ∨ k = bw ∨ base ≤ k) w w') := by
  obtain ⟨i0, hi, hz0, hz1, hz2⟩ := info_parts info_int
  have c1 := cell_at h.i 0
  have c2 : w.cell? ⟨gin, s, none⟩ = some (.bool false) := by rw [cell_at h.g]; simp [marks_get ws hs, -List.contains_eq_mem]; exact hc
  have c3 := free_at h.g s
  simp only [List.getElem?_toArray, List.getElem?_cons_zero] at c1
  obtain ⟨W1, hW1⟩ : ∃ W1, w.setCell ⟨gin, s, none⟩ (.bool true) = W1 := ⟨_, rfl⟩
  have n1 := ne_type h.i h.g (by decide)
  have n2 := ne_type h.v h.g (by decide)
  have n3 := ne_type h.i h.v (by decide)
  have k1 : W1.heap[bi]? = _ := hW1 ▸ (Below.heap_setCell w ⟨gin, s, none⟩ (.bool true) bi n1).trans h.i
  have k2 : W1.heap[bw]? = _ := hW1 ▸ (Below.heap_setCell w ⟨gin, s, none⟩ (.bool true) bw n2).trans h.v
  have k3 : W1.heap[gin]? = _ := hW1 ▸ heap_set h.g s (.bool true)
  have k4 : Own encI 1 3 W1 base vw ws := hW1 ▸ h.o.setCell (own_ne h.o h.g (by decide)) _
  have hB1 : But (fun k => k = gin ∨ k = bw ∨ base ≤ k) w W1 := hW1 ▸ (But.refl _ w).setCell (fun _ => .inl rfl) _
  have hz1' : W1.heap.size = w.heap.size := by rw [← hW1]; simp [World.setCell]
  have d1 := cell_at k2 0
  have d2 := free_at k2 0
  simp only [List.getElem?_toArray, List.getElem?_cons_zero] at d1
  have hset : (((marks n ws).map Value.bool).toArray.setIfInBounds s (.bool true)) = ((marks n (meet ws s)).map Value.bool).toArray := by
    rw [← marks_set ws hs hc]
    simp
  rw [hset] at k3
  have hmeet : ws ++ [(s : Int)] = meet ws s := by unfold meet; rw [if_neg (by rw [hc]; decide)]
  have keep : ∀ w1, (W1.alloc (.cells #[.int .i64 (s : Int)] 3)).grownBy w1 (blk vw) →
      w1.heap[bw]? = some (.cells #[vw] 22 (0, 0)) ∧ w1.heap[bi]? = some (.cells #[.slice (some ⟨gin, 0, none⟩) n n] 121 (0, 0)) ∧ w1.heap[gin]? = some (.cells ((marks n (meet ws s)).map Value.bool).toArray 4 (0, 0)) := by
    intro w1 hg
    have old : ∀ b o, W1.heap[b]? = some o → blk vw ≠ some b → w1.heap[b]? = some o := fun b o ho hne => by
      have hlt := (Array.getElem?_eq_some_iff.1 ho).1
      rw [hg.block b (by simp; omega) (fun e => hne e.symm), Below.heap_alloc _ _ _ hlt]
      exact ho
    exact ⟨old _ _ k2 (own_ne k4 k2 (by decide)), old _ _ k1 (own_ne k4 k1 (by decide)), old _ _ k3 (own_ne k4 k3 (by decide))⟩
  have hbw : bw < W1.heap.size := (Array.getElem?_eq_some_iff.1 k2).1
  have hne2 := own_ne k4 k2 (by decide)
  have hlt4 := k4.lt
  have hsz : base ≤ W1.heap.size := by omega
  have hbyt : (4 * (ws.length + 1) + 4096) * 8 ≤ 140737488355328 := by omega
  have hwl2 : ws.length + 1 ≤ 4611686018427387904 := by omega
  have HM := Lib.hid hmeet
  clear hset hc h hmeet k1 k2 k3 hz1' n1 n2 n3 hbase hwl
  go_enter Try.func98, Try.ntmps98
  go_wp2_with (at_builtin; refine wpList_append_my _ rfl (.tmp 12) (.tmp 14) 22 rfl encI_len encI_one 3 i0 _ Try.underlying22 hi hz0 hz1 hz2 rfl (by decide) (base := base) rfl (xs := ws) (k4.below (alloc1 W1 _)) rfl (ys := [(s : Int)]) (Sl_one (enc := encI) (size := 1) W1 (s : Int) _ _) hbyt hwl2 (by simp; omega) ?_; intro v1 w1 hown1 hg1 hb1 hl1; obtain ⟨A1, cc1, rfl, hle1⟩ := hown1.form; obtain ⟨q1, q2, q3⟩ := keep w1 hg1; have r1 := cell_at q1 0; have r2 := free_at q1 0; simp only [List.getElem?_toArray, List.getElem?_cons_zero] at r1)
  go_end0
  have hgs := hg1.size
  simp at hgs
  refine ⟨rfl, _, ⟨?_, ?_, heap_set q1 0 _, ?_⟩, ?_⟩
  · rw [Below.heap_setCell _ _ _ _ (ne_type q2 q1 (by decide))]; exact q2
  · rw [Below.heap_setCell _ _ _ _ (ne_type q3 q1 (by decide))]; exact q3
  · rw [← HM.out]
    have hne := own_ne (t := 22) hown1 q1 (by decide)
    have hh := hown1.setCell (p := ⟨bw, 0, none⟩) hne (.slice A1 (ws ++ [(s : Int)]).length cc1)
    simpa using hh
  · refine But.setCell ?_ (fun _ => .inr (.inl rfl)) _
    refine (hB1.alloc _).trans (But.of_grown hg1) (fun k hk e => ?_)
    exact .inr (.inr (hlt4 k e).1)
end Go.Proofs.Ytakldmbbmefnbaa
