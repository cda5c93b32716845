/- the law's own functions: few. -/
import Derived.Test.YtakldmbbmefnbaaThreeLaw
import Derived.Test.YtakldmbbmefnbaaLocal
namespace Go.Proofs.Ytakldmbbmefnbaa
open Go.RowKit Go.Sort Go.Proofs
set_option maxRecDepth 100000
set_option maxHeartbeats 1000000

theorem Sl.take {α : Type} {enc : α → List Value} {size : Nat} {w : World} {B : Nat} {A : Option Addr} {n c : Nat} {xs : List α} (h : Sl enc size w B (.slice A n c) xs) (k c' : Nat) (hk : k ≤ xs.length) : Sl enc size w B (.slice A k c') (xs.take k) := by
  obtain ⟨A1, c1, hv, hr⟩ := h
  cases hv
  have hl : (xs.take k).length = k := by rw [List.length_take]; omega
  refine ⟨A, c', by rw [hl], fun hn => ?_⟩
  rw [hl] at hn
  obtain ⟨b, o, hA, hb, hc⟩ := hr (by omega)
  refine ⟨b, o, hA, hb, fun i x hx => hc i x ?_⟩
  rw [List.getElem?_take] at hx
  split at hx
  · exact hx
  · cases hx

theorem take_min {α : Type} {l : List α} {n k : Nat} (h : l.length = n) : l.take (min n k) = l.take k := by
  subst h
  rcases Nat.le_total l.length k with h | h
  · rw [Nat.min_eq_left h, List.take_length, List.take_of_length_le h]
  · rw [Nat.min_eq_right h]

theorem Own.any {α : Type} {enc : α → List Value} {size : Nat} {e : TypeId} {w : World} {base : Nat} {v : Value} {xs : List α} (h : Own enc size e w base v xs) : ∃ A n c, v = .slice A n c := by
  obtain ⟨A, c, h, _⟩ := h.form
  exact ⟨A, _, c, h⟩

theorem Own.set4 {α : Type} {enc : α → List Value} {size : Nat} {e : TypeId} {w : World} {base b : Nat} {v : Value} {xs : List α} (h : Own enc size e w base v xs) (hb : blk v ≠ some b) (x0 x1 x2 x3 : Value) :
    Own enc size e ((((w.setCell ⟨b, 0, none⟩ x0).setCell ⟨b, 1, none⟩ x1).setCell ⟨b, 2, none⟩ x2).setCell ⟨b, 3, none⟩ x3) base v xs :=
  (((h.setCell (p := ⟨b, 0, none⟩) hb x0).setCell (p := ⟨b, 1, none⟩) hb x1).setCell (p := ⟨b, 2, none⟩) hb x2).setCell (p := ⟨b, 3, none⟩) hb x3

/-- An automaton that can be gone through. -/
def A.few (a : A) : A := ⟨if 30 < a.states then 30 else a.states, a.start.take 12, a.final.take 12, a.edges.take 60⟩

theorem few_ok (a : A) (As Af Ae : Option Addr) (cs cf ce : Nat) (w : World) (hfa : FaAt w w.heap.size a (.slice As a.start.length cs) (.slice Af a.final.length cf) (.slice Ae a.edges.length ce))
    (h1 : a.start.length ≤ cs) (h2 : a.final.length ≤ cf) (h3 : a.edges.length ≤ ce) (h4 : cs ≤ maxLen) (h5 : cf ≤ maxLen) (h6 : ce ≤ maxLen) :
    Calls Try.prog 8 #[vA a (.slice As a.start.length cs) (.slice Af a.final.length cf) (.slice Ae a.edges.length ce)] w (fun r w' => (∃ vs vf ve, r = .returned (vA a.few vs vf ve) ∧ Own encI 1 3 w' w.heap.size vs a.few.start ∧ Own encI 1 3 w' w.heap.size vf a.few.final ∧ Own encE 7 55 w' w.heap.size ve a.few.edges) ∧ Below w.heap.size w w') := by
  obtain ⟨ns, hns⟩ : ∃ ns, a.start.length = ns := ⟨_, rfl⟩
  obtain ⟨nf, hnf⟩ : ∃ nf, a.final.length = nf := ⟨_, rfl⟩
  obtain ⟨ne, hne⟩ : ∃ ne, a.edges.length = ne := ⟨_, rfl⟩
  obtain ⟨W1, hW1⟩ : ∃ W1, w.alloc (.cells #[.int .i64 a.states, .slice As ns cs, .slice Af nf cf, .slice Ae ne ce] 25) = W1 := ⟨_, rfl⟩
  obtain ⟨W2, hW2⟩ : ∃ W2, W1.alloc (.cells #[.int .i64 0, .slice none 0 0, .slice none 0 0, .slice none 0 0] 25) = W2 := ⟨_, rfl⟩
  have d1 : Below w.heap.size w W1 := hW1 ▸ alloc1 w _
  have d2 : Below W1.heap.size W1 W2 := hW2 ▸ alloc1 W1 _
  have z1 : W1.heap.size = w.heap.size + 1 := by rw [← hW1]; simp
  have z2 : W2.heap.size = W1.heap.size + 1 := by rw [← hW2]; simp
  have b1 : W2.heap[w.heap.size]? = some (.cells #[.int .i64 a.states, .slice As ns cs, .slice Af nf cf, .slice Ae ne ce] 25 (0, 0)) := by
    rw [d2.block _ (by omega), ← hW1]; exact heap_alloc_new w _
  have b2 : W2.heap[W1.heap.size]? = some (.cells #[.int .i64 0, .slice none 0 0, .slice none 0 0, .slice none 0 0] 25 (0, 0)) := by rw [← hW2]; exact heap_alloc_new W1 _
  have dw := below_next d1 d2
  obtain ⟨W3, hW3⟩ : ∃ W3, W2.setCell ⟨w.heap.size, 0, none⟩ (.int .i64 30) = W3 := ⟨_, rfl⟩
  have g1 : W3.heap[w.heap.size]? = some (.cells #[.int .i64 30, .slice As ns cs, .slice Af nf cf, .slice Ae ne ce] 25 (0, 0)) := by
    rw [← hW3]; exact heap_set b1 0 _
  have g2 : W3.heap[W1.heap.size]? = some (.cells #[.int .i64 0, .slice none 0 0, .slice none 0 0, .slice none 0 0] 25 (0, 0)) := by
    rw [← hW3, Below.heap_setCell _ _ _ _ (by show W1.heap.size ≠ w.heap.size; omega)]; exact b2
  have dw3 : Below w.heap.size w W3 := by rw [← hW3]; exact dw.setCell (Nat.le_refl _) _
  have z3 : W3.heap.size = W2.heap.size := by rw [← hW3]; simp [World.setCell]
  have c0 := cell_at b1 0
  have f0 := free_at b1 0
  simp only [List.getElem?_toArray, List.getElem?_cons_zero, List.getElem?_cons_succ] at c0
  unfold vA
  rw [hns, hnf, hne]
  rw [hns, hnf, hne] at hfa
  rw [hns] at h1; rw [hnf] at h2; rw [hne] at h3
  unfold maxLen at h4 h5 h6
  have hS : Ints w w.heap.size (.slice As (min ns 12) cs) (a.start.take 12) := by
    have := hfa.s.take (min ns 12) cs (by omega)
    rwa [take_min hns] at this
  have hF : Ints w w.heap.size (.slice Af (min nf 12) cf) (a.final.take 12) := by
    have := hfa.f.take (min nf 12) cf (by omega)
    rwa [take_min hnf] at this
  have hE : Edges w w.heap.size (.slice Ae (min ne 60) ce) (a.edges.take 60) := by
    have := hfa.e.take (min ne 60) ce (by omega)
    rwa [take_min hne] at this
  have m1 : min ns 12 ≤ cs := by omega
  have m2 : min nf 12 ≤ cf := by omega
  have m3 : min ne 60 ≤ ce := by omega
  have HZ := Lib.hid (And.intro z1 (And.intro z2 (And.intro z3 (And.intro hns (And.intro hnf hne)))))
  clear z1 z2 z3 hns hnf hne
  by_cases hst : 30 < a.states
  · go_enter Try.func8, Try.ntmps8
    go_wp2_with fail
    refine wp_region_local (by kernel_rfl) (fun w' => Below W3.heap.size W3 w') (fun a b => Below a.heap.size a b)
      (fun i v w' => match i with
        | 0 => v = .pointer (some ⟨w.heap.size, 0, none⟩)
        | 1 => v = .int .i64 30
        | 2 => v = .pointer (some ⟨w.heap.size, 1, none⟩)
        | 3 => v = .slice As ns cs
        | 4 => v = .pointer (some ⟨w.heap.size, 1, none⟩)
        | 5 => v = .slice As ns cs
        | 6 => v = .int .i64 (ns : Nat)
        | 7 => v = .int .i64 (min ns 12 : Nat)
        | 8 => v = .slice As (min ns 12) cs
        | 9 => Own encI 1 3 w' w.heap.size v (a.start.take 12)
        | 10 => v = .pointer (some ⟨w.heap.size, 2, none⟩)
        | 11 => v = .slice Af nf cf
        | 12 => v = .pointer (some ⟨w.heap.size, 2, none⟩)
        | 13 => v = .slice Af nf cf
        | 14 => v = .int .i64 (nf : Nat)
        | 15 => v = .int .i64 (min nf 12 : Nat)
        | 16 => v = .slice Af (min nf 12) cf
        | 17 => Own encI 1 3 w' w.heap.size v (a.final.take 12)
        | 18 => v = .pointer (some ⟨w.heap.size, 3, none⟩)
        | 19 => v = .slice Ae ne ce
        | 20 => v = .pointer (some ⟨w.heap.size, 3, none⟩)
        | 21 => v = .slice Ae ne ce
        | 22 => v = .int .i64 (ne : Nat)
        | 23 => v = .int .i64 (min ne 60 : Nat)
        | 24 => v = .slice Ae (min ne 60) ce
        | 25 => Own encE 7 55 w' w.heap.size v (a.edges.take 60)
        | 26 => ∃ v9 v17 v25, v = .agg #[.int .i64 30, v9, v17, v25] ∧ Own encI 1 3 w' w.heap.size v9 (a.start.take 12) ∧ Own encI 1 3 w' w.heap.size v17 (a.final.take 12) ∧ Own encE 7 55 w' w.heap.size v25 (a.edges.take 60)
        | _ => True)
      (fun f w' => ∃ v9 v17 v25, Own encI 1 3 w' w.heap.size v9 (a.start.take 12) ∧ Own encI 1 3 w' w.heap.size v17 (a.final.take 12) ∧ Own encE 7 55 w' w.heap.size v25 (a.edges.take 60) ∧ w'.heap[W1.heap.size]? = some (.cells #[.int .i64 30, v9, v17, v25] 25 (0, 0)) ∧ Below w.heap.size w w')
      (fun f => { tmps := #[.agg #[.int .i64 a.states, .slice As ns cs, .slice Af nf cf, .slice Ae ne ce], .pointer (some ⟨w.heap.size, 0, none⟩), .pointer (some ⟨W1.heap.size, 0, none⟩), .pointer (some ⟨w.heap.size, 0, none⟩), .int .i64 a.states, .bool true, .pointer (some ⟨w.heap.size, 0, none⟩), f 0, f 1, f 2, f 3, f 4, f 5, f 6, f 7, f 8, f 9, f 10, f 11, f 12, f 13, f 14, f 15, f 16, f 17, f 18, f 19, f 20, f 21, f 22, f 23, f 24, f 25, f 26], defers := [] })
      (by kernel_rfl) (by kernel_rfl) (by kernel_rfl) (by kernel_rfl) (fun f => by kernel_rfl) (fun f => rfl) ?hk (Below.refl _ _).drew ?hstep ?hlast ?hend
    case hk =>
      intro i v x y hxy h
      match i with
      | 26 =>
        obtain ⟨v9, v17, v25, rfl, o1, o2, o3⟩ := h
        exact ⟨v9, v17, v25, rfl, o1.below hxy, o2.below hxy, o3.below hxy⟩
      | 9 => exact Own.below h hxy
      | 17 => exact Own.below h hxy
      | 25 => exact Own.below h hxy
      | 0 | 1 | 2 | 3 | 4 | 5 | 6 | 7 | 8 | 10 | 11 | 12 | 13 | 14 | 15 | 16 | 18 | 19 | 20 | 21 | 22 | 23 | 24 => exact h
      | n + 27 => trivial
    case hstep =>
      intro f w' hR
      have hz := HZ.out
      have e1 := (hR.block _ (Array.getElem?_eq_some_iff.1 g1).1).trans g1
      have q0 := cell_at e1 0; have q1 := cell_at e1 1; have q2 := cell_at e1 2; have q3 := cell_at e1 3
      simp only [List.getElem?_toArray, List.getElem?_cons_zero, List.getElem?_cons_succ] at q0 q1 q2 q3
      have dR := below_next dw3 hR
      have zR := dR.size
      clear hz b1 b2 g1 g2 hW1 hW2 hW3 c0 f0 d1 d2 dw dw3 hfa
      refine ⟨?_, ?_, ?_, ?_, ?_, ?_, ?_, ?_, ?_, ?_, ?_, ?_, ?_, ?_, ?_, ?_, ?_, ?_, ?_, ?_, ?_, ?_, ?_, ?_, ?_, ?_, ?_, trivial⟩
      all_goals
        intro hA a1 K hK
        simp only [AfterAll, Region.binds, forall_const, and_true] at hA
      all_goals first
        | (go_simp
           exact hK _ _ hR (Below.refl _ _) rfl)
        | (go_simp
           exact hK _ _ hR (Below.refl _ _) (congrArg (Value.int IntKind.i64) (by omega)))
        | (go_simp
           refine (clone_int _ _ w' (hS.below dR zR) (by rw [List.length_take]; omega)).mono ?_
           rintro e w2 ⟨v2, rfl, ho2, d2⟩
           exact hK _ _ (below_next hR d2) d2 (ho2.lower zR))
        | (go_simp
           refine (clone_int _ _ w' (hF.below dR zR) (by rw [List.length_take]; omega)).mono ?_
           rintro e w2 ⟨v2, rfl, ho2, d2⟩
           exact hK _ _ (below_next hR d2) d2 (ho2.lower zR))
        | (go_simp
           refine (clone_edge _ _ w' (hE.below dR zR) (by rw [List.length_take]; omega)).mono ?_
           rintro e w2 ⟨v2, rfl, ho2, d2⟩
           exact hK _ _ (below_next hR d2) d2 (ho2.lower zR))
        | skip
      obtain ⟨_, o9, o17, o25⟩ := hA
      obtain ⟨A9, n9, c9, h9⟩ := o9.any
      obtain ⟨A17, n17, c17, h17⟩ := o17.any
      obtain ⟨A25, n25, c25, h25⟩ := o25.any
      have HO := Lib.hid (And.intro o9 (And.intro o17 o25))
      clear o9 o17 o25
      go_simp
      exact hK _ _ hR (Below.refl _ _) ⟨_, _, _, rfl, h9 ▸ HO.out.1, h17 ▸ HO.out.2.1, h25 ▸ HO.out.2.2⟩
    case hlast =>
      intro o ho f w' hR hP a1 K hK
      cases ho
      obtain ⟨v9, v17, v25, h26, o9, o17, o25⟩ := hP 26 (by decide)
      clear hP
      obtain ⟨A9, n9, c9, rfl⟩ := o9.any
      obtain ⟨A17, n17, c17, rfl⟩ := o17.any
      obtain ⟨A25, n25, c25, rfl⟩ := o25.any
      have e2 := (hR.block _ (Array.getElem?_eq_some_iff.1 g2).1).trans g2
      have q0 := cell_at e2 0; have q1 := cell_at e2 1; have q2 := cell_at e2 2; have q3 := cell_at e2 3
      have p0 := free_at e2 0; have p1 := free_at e2 1; have p2 := free_at e2 2; have p3 := free_at e2 3
      simp only [List.getElem?_toArray, List.getElem?_cons_zero, List.getElem?_cons_succ] at q0 q1 q2 q3
      have dR := below_next dw3 hR
      have HO := Lib.hid (And.intro o9 (And.intro o17 o25))
      have HE := Lib.hid e2
      have HD := Lib.hid dR
      clear hfa o9 o17 o25 e2 b1 b2 g1 g2 hW1 hW2 hW3 c0 f0 d1 d2 dw dw3 dR hS hF hE
      go_simp
      obtain ⟨o9, o17, o25⟩ := HO.out
      have e2 := HE.out
      have hz := HZ.out
      exact hK undef _ ⟨_, _, _, o9.set4 (own_ne o9 e2 (by decide)) _ _ _ _, o17.set4 (own_ne o17 e2 (by decide)) _ _ _ _, o25.set4 (own_ne o25 e2 (by decide)) _ _ _ _, heap_set (heap_set (heap_set (heap_set e2 0 _) 1 _) 2 _) 3 _,
        (((HD.out.setCell (show w.heap.size ≤ W1.heap.size by omega) _).setCell (show w.heap.size ≤ W1.heap.size by omega) _).setCell (show w.heap.size ≤ W1.heap.size by omega) _).setCell (show w.heap.size ≤ W1.heap.size by omega) _⟩
    case hend =>
      rintro f w' ⟨v9, v17, v25, o9, o17, o25, hb, hbel⟩
      have q0 := cell_at hb 0; have q1 := cell_at hb 1; have q2 := cell_at hb 2; have q3 := cell_at hb 3
      simp only [List.getElem?_toArray, List.getElem?_cons_zero, List.getElem?_cons_succ] at q0 q1 q2 q3
      have HO := Lib.hid (And.intro o9 (And.intro o17 (And.intro o25 hbel)))
      clear hfa o9 o17 o25 hb b1 b2 g1 g2 hW1 hW2 hW3 c0 f0 d1 d2 dw dw3 hS hF hE hbel
      go_wp2
      obtain ⟨o9, o17, o25, hbel⟩ := HO.out
      have hst2 : (if 30 < a.states then 30 else a.states) = 30 := by split <;> omega
      refine ⟨rfl, vA a.few v9 v17 v25, ?_, ⟨_, _, _, rfl, o9, o17, o25⟩, hbel⟩
      simp [results, Try.results8, go_sem, q0, q1, q2, q3, vA, A.few, hst2]
  · go_enter Try.func8, Try.ntmps8
    go_wp2_with fail
    refine wp_region_local (by kernel_rfl) (fun w' => Below W2.heap.size W2 w') (fun a b => Below a.heap.size a b)
      (fun i v w' => match i with
        | 0 => v = .pointer (some ⟨w.heap.size, 0, none⟩)
        | 1 => v = .int .i64 a.states
        | 2 => v = .pointer (some ⟨w.heap.size, 1, none⟩)
        | 3 => v = .slice As ns cs
        | 4 => v = .pointer (some ⟨w.heap.size, 1, none⟩)
        | 5 => v = .slice As ns cs
        | 6 => v = .int .i64 (ns : Nat)
        | 7 => v = .int .i64 (min ns 12 : Nat)
        | 8 => v = .slice As (min ns 12) cs
        | 9 => Own encI 1 3 w' w.heap.size v (a.start.take 12)
        | 10 => v = .pointer (some ⟨w.heap.size, 2, none⟩)
        | 11 => v = .slice Af nf cf
        | 12 => v = .pointer (some ⟨w.heap.size, 2, none⟩)
        | 13 => v = .slice Af nf cf
        | 14 => v = .int .i64 (nf : Nat)
        | 15 => v = .int .i64 (min nf 12 : Nat)
        | 16 => v = .slice Af (min nf 12) cf
        | 17 => Own encI 1 3 w' w.heap.size v (a.final.take 12)
        | 18 => v = .pointer (some ⟨w.heap.size, 3, none⟩)
        | 19 => v = .slice Ae ne ce
        | 20 => v = .pointer (some ⟨w.heap.size, 3, none⟩)
        | 21 => v = .slice Ae ne ce
        | 22 => v = .int .i64 (ne : Nat)
        | 23 => v = .int .i64 (min ne 60 : Nat)
        | 24 => v = .slice Ae (min ne 60) ce
        | 25 => Own encE 7 55 w' w.heap.size v (a.edges.take 60)
        | 26 => ∃ v9 v17 v25, v = .agg #[.int .i64 a.states, v9, v17, v25] ∧ Own encI 1 3 w' w.heap.size v9 (a.start.take 12) ∧ Own encI 1 3 w' w.heap.size v17 (a.final.take 12) ∧ Own encE 7 55 w' w.heap.size v25 (a.edges.take 60)
        | _ => True)
      (fun f w' => ∃ v9 v17 v25, Own encI 1 3 w' w.heap.size v9 (a.start.take 12) ∧ Own encI 1 3 w' w.heap.size v17 (a.final.take 12) ∧ Own encE 7 55 w' w.heap.size v25 (a.edges.take 60) ∧ w'.heap[W1.heap.size]? = some (.cells #[.int .i64 a.states, v9, v17, v25] 25 (0, 0)) ∧ Below w.heap.size w w')
      (fun f => { tmps := #[.agg #[.int .i64 a.states, .slice As ns cs, .slice Af nf cf, .slice Ae ne ce], .pointer (some ⟨w.heap.size, 0, none⟩), .pointer (some ⟨W1.heap.size, 0, none⟩), .pointer (some ⟨w.heap.size, 0, none⟩), .int .i64 a.states, .bool false, undef, f 0, f 1, f 2, f 3, f 4, f 5, f 6, f 7, f 8, f 9, f 10, f 11, f 12, f 13, f 14, f 15, f 16, f 17, f 18, f 19, f 20, f 21, f 22, f 23, f 24, f 25, f 26], defers := [] })
      (by kernel_rfl) (by kernel_rfl) (by kernel_rfl) (by kernel_rfl) (fun f => by kernel_rfl) (fun f => rfl) ?hk (Below.refl _ _).drew ?hstep ?hlast ?hend
    case hk =>
      intro i v x y hxy h
      match i with
      | 26 =>
        obtain ⟨v9, v17, v25, rfl, o1, o2, o3⟩ := h
        exact ⟨v9, v17, v25, rfl, o1.below hxy, o2.below hxy, o3.below hxy⟩
      | 9 => exact Own.below h hxy
      | 17 => exact Own.below h hxy
      | 25 => exact Own.below h hxy
      | 0 | 1 | 2 | 3 | 4 | 5 | 6 | 7 | 8 | 10 | 11 | 12 | 13 | 14 | 15 | 16 | 18 | 19 | 20 | 21 | 22 | 23 | 24 => exact h
      | n + 27 => trivial
    case hstep =>
      intro f w' hR
      have hz := HZ.out
      have e1 := (hR.block _ (Array.getElem?_eq_some_iff.1 b1).1).trans b1
      have q0 := cell_at e1 0; have q1 := cell_at e1 1; have q2 := cell_at e1 2; have q3 := cell_at e1 3
      simp only [List.getElem?_toArray, List.getElem?_cons_zero, List.getElem?_cons_succ] at q0 q1 q2 q3
      have dR := below_next dw hR
      have zR := dR.size
      clear hz b1 b2 g1 g2 hW1 hW2 hW3 c0 f0 d1 d2 dw dw3 hfa
      refine ⟨?_, ?_, ?_, ?_, ?_, ?_, ?_, ?_, ?_, ?_, ?_, ?_, ?_, ?_, ?_, ?_, ?_, ?_, ?_, ?_, ?_, ?_, ?_, ?_, ?_, ?_, ?_, trivial⟩
      all_goals
        intro hA a1 K hK
        simp only [AfterAll, Region.binds, forall_const, and_true] at hA
      all_goals first
        | (go_simp
           exact hK _ _ hR (Below.refl _ _) rfl)
        | (go_simp
           exact hK _ _ hR (Below.refl _ _) (congrArg (Value.int IntKind.i64) (by omega)))
        | (go_simp
           refine (clone_int _ _ w' (hS.below dR zR) (by rw [List.length_take]; omega)).mono ?_
           rintro e w2 ⟨v2, rfl, ho2, d2⟩
           exact hK _ _ (below_next hR d2) d2 (ho2.lower zR))
        | (go_simp
           refine (clone_int _ _ w' (hF.below dR zR) (by rw [List.length_take]; omega)).mono ?_
           rintro e w2 ⟨v2, rfl, ho2, d2⟩
           exact hK _ _ (below_next hR d2) d2 (ho2.lower zR))
        | (go_simp
           refine (clone_edge _ _ w' (hE.below dR zR) (by rw [List.length_take]; omega)).mono ?_
           rintro e w2 ⟨v2, rfl, ho2, d2⟩
           exact hK _ _ (below_next hR d2) d2 (ho2.lower zR))
        | skip
      obtain ⟨_, o9, o17, o25⟩ := hA
      obtain ⟨A9, n9, c9, h9⟩ := o9.any
      obtain ⟨A17, n17, c17, h17⟩ := o17.any
      obtain ⟨A25, n25, c25, h25⟩ := o25.any
      have HO := Lib.hid (And.intro o9 (And.intro o17 o25))
      clear o9 o17 o25
      go_simp
      exact hK _ _ hR (Below.refl _ _) ⟨_, _, _, rfl, h9 ▸ HO.out.1, h17 ▸ HO.out.2.1, h25 ▸ HO.out.2.2⟩
    case hlast =>
      intro o ho f w' hR hP a1 K hK
      cases ho
      obtain ⟨v9, v17, v25, h26, o9, o17, o25⟩ := hP 26 (by decide)
      clear hP
      obtain ⟨A9, n9, c9, rfl⟩ := o9.any
      obtain ⟨A17, n17, c17, rfl⟩ := o17.any
      obtain ⟨A25, n25, c25, rfl⟩ := o25.any
      have e2 := (hR.block _ (Array.getElem?_eq_some_iff.1 b2).1).trans b2
      have q0 := cell_at e2 0; have q1 := cell_at e2 1; have q2 := cell_at e2 2; have q3 := cell_at e2 3
      have p0 := free_at e2 0; have p1 := free_at e2 1; have p2 := free_at e2 2; have p3 := free_at e2 3
      simp only [List.getElem?_toArray, List.getElem?_cons_zero, List.getElem?_cons_succ] at q0 q1 q2 q3
      have dR := below_next dw hR
      have HO := Lib.hid (And.intro o9 (And.intro o17 o25))
      have HE := Lib.hid e2
      have HD := Lib.hid dR
      clear hfa o9 o17 o25 e2 b1 b2 g1 g2 hW1 hW2 hW3 c0 f0 d1 d2 dw dw3 dR hS hF hE
      go_simp
      obtain ⟨o9, o17, o25⟩ := HO.out
      have e2 := HE.out
      have hz := HZ.out
      exact hK undef _ ⟨_, _, _, o9.set4 (own_ne o9 e2 (by decide)) _ _ _ _, o17.set4 (own_ne o17 e2 (by decide)) _ _ _ _, o25.set4 (own_ne o25 e2 (by decide)) _ _ _ _, heap_set (heap_set (heap_set (heap_set e2 0 _) 1 _) 2 _) 3 _,
        (((HD.out.setCell (show w.heap.size ≤ W1.heap.size by omega) _).setCell (show w.heap.size ≤ W1.heap.size by omega) _).setCell (show w.heap.size ≤ W1.heap.size by omega) _).setCell (show w.heap.size ≤ W1.heap.size by omega) _⟩
    case hend =>
      rintro f w' ⟨v9, v17, v25, o9, o17, o25, hb, hbel⟩
      have q0 := cell_at hb 0; have q1 := cell_at hb 1; have q2 := cell_at hb 2; have q3 := cell_at hb 3
      simp only [List.getElem?_toArray, List.getElem?_cons_zero, List.getElem?_cons_succ] at q0 q1 q2 q3
      have HO := Lib.hid (And.intro o9 (And.intro o17 (And.intro o25 hbel)))
      clear hfa o9 o17 o25 hb b1 b2 g1 g2 hW1 hW2 hW3 c0 f0 d1 d2 dw dw3 hS hF hE hbel
      go_wp2
      obtain ⟨o9, o17, o25, hbel⟩ := HO.out
      have hst2 : (if 30 < a.states then 30 else a.states) = a.states := by split <;> omega
      refine ⟨rfl, vA a.few v9 v17 v25, ?_, ⟨_, _, _, rfl, o9, o17, o25⟩, hbel⟩
      simp [results, Try.results8, go_sem, q0, q1, q2, q3, vA, A.few, hst2]
end Go.Proofs.Ytakldmbbmefnbaa
