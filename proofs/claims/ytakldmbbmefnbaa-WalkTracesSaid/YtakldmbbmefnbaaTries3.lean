/- walk.tries, at another type. -/
import Derived.Test.YtakldmbbmefnbaaTries1
namespace Go.Proofs.Ytakldmbbmefnbaa
open Go.RowKit Go.Sort Go.Proofs

theorem catch_idle_bool (p q : Addr) (w : World) :
    CallsD Try.prog 94 #[.pointer (some p), .pointer (some q)] .returning w fun e u' w' => e = .returned (.tuple #[]) ∧ u' = .returning ∧ w' = w := by
  refine callsD_of_wpS Try.func94 rfl fun c₀ cs hu => ?_
  apply wpS_seq
  apply wpS_region
  simp [wpOpsS, go_sem, recoverD, hu, Try.ntmps94, Exit.thenS]
  apply wpS_seq
  apply wpS_region
  simp [wpOpsS, go_sem, Exit.thenS]
  refine wpS_cond (t := false) (by simp [Act.eval, Array.replicate]) ?_
  simp only [Bool.false_eq_true, if_false]
  refine wpS_of_wp (wp_skip ?_)
  cases c₀
  simp_all [bodyPostS, results, Try.results94]

theorem catch_err_bool (p q : Addr) (x y : Value) (e : Int) (older : List PanicEntry) (w : World) (hp : w.cell? p = some x) (hpz : w.frozen? p = false) (hq : w.cell? q = some y) (hqz : w.frozen? q = false) (hpq : p.block ≠ q.block) :
    CallsD Try.prog 94 #[.pointer (some p), .pointer (some q)] (.panicking ({ v := .iface 29 (.int .i64 e), recovered := false } :: older)) w fun r u' w' =>
      r = .returned (.tuple #[]) ∧ u' = .panicking ({ v := .iface 29 (.int .i64 e), recovered := true } :: older) ∧ w' = (w.setCell p (.bool false)).setCell q (.int .i64 e) := by
  have hta := assert_errno e
  have hq2 : (w.setCell p (.bool false)).cell? q = some y := by rw [World.cell?_setCell_other _ _ _ _ (fun h => hpq (by rw [h]))]; exact hq
  have hq3 : (w.setCell p (.bool false)).frozen? q = false := by rw [World.frozen?_setCell]; exact hqz
  refine callsD_of_wpS Try.func94 rfl fun c₀ cs hu => ?_
  apply wpS_seq
  apply wpS_region
  simp [wpOpsS, go_sem, recoverD, hu, Try.ntmps94, Exit.thenS]
  apply wpS_seq
  apply wpS_region
  simp [wpOpsS, go_sem, Exit.thenS]
  refine wpS_cond (t := true) (by simp [Act.eval, Array.replicate]) ?_
  simp only [if_true]
  refine wpS_of_wp ?_
  simp only [List.size_toArray, List.length_cons, List.length_nil, Nat.reduceAdd, Nat.reduceSub, Array.replicate_succ, Array.replicate_zero, List.push_toArray, List.append_toArray, List.nil_append, List.cons_append]
  go_wp2
  simp [bodyPostS, results, Try.results94]

set_option maxRecDepth 100000
set_option maxHeartbeats 1000000
theorem tries_bool (a : A) (vs vf ve : Value) (g : Nat) (lb : Array Value) (w : World) (hen : ∀ args w, (callFunc g args).run Try.prog w = .ok (.enter g args) w) (hfa : FaAt w w.heap.size a vs vf ve) (hsh : Short a)
    (R : Ending → World → Prop) (hR : ∀ r W, R r W → (∃ b, r = .returned (.bool b)) ∨ ∃ e, r = .panicked (errPanic e))
    (hdoes : a.ok = true → ∀ W b, Below w.heap.size w W → Wk W b a vs vf ve → Calls Try.prog g (#[pw b] ++ lb) W (fun r W' => R r W' ∧ Below W.heap.size W W')) :
    Calls Try.prog 49 #[vA a vs vf ve, .func (.func g) #[] lb] w (fun r w' => Below w.heap.size w w' ∧
      ((a.ok = false ∧ r = .returned (.tuple #[.bool false, .int .i64 260])) ∨ (a.ok = true ∧ ∃ r0 W0, R r0 W0 ∧ Below w.heap.size w W0 ∧ Stored 4 W0 w' ∧ ((∃ v, r0 = .returned v ∧ r = .returned (.tuple #[v, .int .i64 0])) ∨ ∃ e, r0 = .panicked (errPanic e) ∧ r = .returned (.tuple #[.bool false, .int .i64 e]))))) := by
  have hmf : ∀ (fn : Fn) (first cap : Array Value) (w : World), (Instr.makeFunc fn first cap).run Try.prog w = .ok (.func fn first cap) w := fun _ _ _ _ => rfl
  obtain ⟨As, cs, rfl, _⟩ := id hfa.s
  obtain ⟨Af, cf, rfl, _⟩ := id hfa.f
  obtain ⟨Ae, ce, rfl, _⟩ := id hfa.e
  unfold vA
  obtain ⟨W1, hW1⟩ : ∃ W1, w.alloc (.cells #[.int .i64 a.states, .slice As a.start.length cs, .slice Af a.final.length cf, .slice Ae a.edges.length ce] 25) = W1 := ⟨_, rfl⟩
  obtain ⟨W2, hW2⟩ : ∃ W2, W1.alloc (.cells #[.bool false] 4) = W2 := ⟨_, rfl⟩
  obtain ⟨W3, hW3⟩ : ∃ W3, W2.alloc (.cells #[.int .i64 0] 29) = W3 := ⟨_, rfl⟩
  have d1 : Below w.heap.size w W1 := hW1 ▸ alloc1 w _
  have d2 : Below W1.heap.size W1 W2 := hW2 ▸ alloc1 W1 _
  have d3 : Below W2.heap.size W2 W3 := hW3 ▸ alloc1 W2 _
  have dw : Below w.heap.size w W3 := below_next d1 (below_next d2 d3)
  have z1 : W1.heap.size = w.heap.size + 1 := by rw [← hW1]; simp
  have z2 : W2.heap.size = W1.heap.size + 1 := by rw [← hW2]; simp
  have z3 : W3.heap.size = W2.heap.size + 1 := by rw [← hW3]; simp
  have b1 : W3.heap[w.heap.size]? = some (.cells #[.int .i64 a.states, .slice As a.start.length cs, .slice Af a.final.length cf, .slice Ae a.edges.length ce] 25 (0, 0)) := by
    rw [d3.block _ (by omega), d2.block _ (by omega), ← hW1]; exact heap_alloc_new w _
  have b2 : W3.heap[W1.heap.size]? = some (.cells #[.bool false] 4 (0, 0)) := by
    rw [d3.block _ (by omega), ← hW2]; exact heap_alloc_new W1 _
  have b3 : W3.heap[W2.heap.size]? = some (.cells #[.int .i64 0] 29 (0, 0)) := by rw [← hW3]; exact heap_alloc_new W2 _
  have hck := check_ok a _ _ _ W3 (hfa.below dw dw.size) hsh
  unfold vA at hck
  have e0 := cell_at b1 0; have e1 := cell_at b1 1; have e2 := cell_at b1 2; have e3 := cell_at b1 3
  simp only [List.getElem?_toArray, List.getElem?_cons_zero, List.getElem?_cons_succ] at e0 e1 e2 e3
  have HZ := Lib.hid (And.intro z1 (And.intro z2 z3))
  have HFA := Lib.hid hfa
  clear z1 z2 z3 hfa
  cases hok : a.ok with
  | false =>
    rw [hok] at hck
    have hfe : faErr false = 260 := rfl
    rw [hfe] at hck
    clear hfe hok hdoes
    go_enter_defers Try.func49, Try.ntmps49
    go_wp2_with first
      | (go_at_call 64; refine hck.mono ?_; rintro e w4 ⟨rfl, d4⟩)
      | (go_at_call 88; refine (need_no _ _).mono ?_; rintro e w5 ⟨rfl, rfl⟩)
    have hz := HZ.out
    have q2 := (d4.block _ (Array.getElem?_eq_some_iff.1 b2).1).trans b2
    have q3 := (d4.block _ (Array.getElem?_eq_some_iff.1 b3).1).trans b3
    have c2 := cell_at q2 0
    have c3 := cell_at q3 0
    simp only [List.getElem?_toArray, List.getElem?_cons_zero] at c2 c3
    obtain ⟨r1, r2⟩ := two_cells (x := .bool false) (y := .int .i64 260) c2 c3 (by omega)
    refine leaves_cons (f := 94) (args := #[pw W1.heap.size, pw W2.heap.size]) (by simp) (by simp [go_sem]) ?_
    refine (catch_err_bool ⟨W1.heap.size, 0, none⟩ ⟨W2.heap.size, 0, none⟩ _ _ 260 [] _ c2 (free_at q2 0) c3 (free_at q3 0) (by show W1.heap.size ≠ W2.heap.size; omega)).mono ?_
    rintro e u' w'' ⟨rfl, rfl, rfl⟩
    have hfin : Below w.heap.size w ((w5.setCell ⟨W1.heap.size, 0, none⟩ (.bool false)).setCell ⟨W2.heap.size, 0, none⟩ (.int .i64 260)) :=
      (((below_next dw d4).setCell (p := ⟨W1.heap.size, 0, none⟩) (by show w.heap.size ≤ W1.heap.size; omega) _).setCell (p := ⟨W2.heap.size, 0, none⟩) (by show w.heap.size ≤ W2.heap.size; omega) _)
    simp [Leaves, settle, results, Try.results49, go_sem, r1, r2]
    exact hfin
  | true =>
    rw [hok] at hck
    have hfe : faErr true = 0 := rfl
    rw [hfe] at hck
    have hdo := hdoes hok
    clear hfe hdoes
    have hlw := (Array.getElem?_eq_some_iff.1 b1).1
    go_enter_defers Try.func49, Try.ntmps49
    go_wp2_with first
      | (go_at_call 64; refine hck.mono ?_; rintro e w4 ⟨rfl, d4⟩; have f0 := (d4.cell (p := ⟨w.heap.size, 0, none⟩) hlw).trans e0; have f1 := (d4.cell (p := ⟨w.heap.size, 1, none⟩) hlw).trans e1; have f2 := (d4.cell (p := ⟨w.heap.size, 2, none⟩) hlw).trans e2; have f3 := (d4.cell (p := ⟨w.heap.size, 3, none⟩) hlw).trans e3)
      | (go_at_call 88; refine (need_ok _ _).mono ?_; rintro e w5 ⟨rfl, rfl⟩)
    obtain ⟨W6, hW6⟩ : ∃ W6, w5.alloc (.cells #[.int .i64 a.states, .slice As a.start.length cs, .slice Af a.final.length cf, .slice Ae a.edges.length ce] 118) = W6 := ⟨_, rfl⟩
    rw [hW6]
    have d6 : Below w5.heap.size w5 W6 := hW6 ▸ alloc1 w5 _
    have d36 : Below W3.heap.size W3 W6 := below_next d4 d6
    have dw6 := below_next dw d36
    have n6 : ∀ j, W6.cell? ⟨w5.heap.size, j, none⟩ = _ := fun j => hW6 ▸ cell_new w5 _ _ j
    have hwk : Wk W6 w5.heap.size a (.slice As a.start.length cs) (.slice Af a.final.length cf) (.slice Ae a.edges.length ce) :=
      ⟨by rw [← hW6]; simp, n6 0, n6 1, n6 2, n6 3, HFA.out.below dw6 dw6.size⟩
    refine (hdo W6 w5.heap.size dw6 hwk).mono ?_
    rintro r w7 ⟨hRr, d7⟩
    have hz := HZ.out
    have d37 := below_next d36 d7
    have dw7 := below_next dw d37
    have q2 := (d37.block _ (Array.getElem?_eq_some_iff.1 b2).1).trans b2
    have q3 := (d37.block _ (Array.getElem?_eq_some_iff.1 b3).1).trans b3
    have c2 := cell_at q2 0
    have c3 := cell_at q3 0
    simp only [List.getElem?_toArray, List.getElem?_cons_zero] at c2 c3
    have g2 := free_at q2 0
    have g3 := free_at q3 0
    have hsto := fun (x y : Value) => (⟨W1.heap.size, W2.heap.size, x, y, rfl, ⟨_, _, q2⟩, _, _, q3⟩ : ∃ (p q : Nat) (x' y' : Value), (w7.setCell ⟨W1.heap.size, 0, none⟩ x).setCell ⟨W2.heap.size, 0, none⟩ y = (w7.setCell ⟨p, 0, none⟩ x').setCell ⟨q, 0, none⟩ y' ∧ (∃ cs z, w7.heap[p]? = some (.cells cs 4 z)) ∧ ∃ cs z, w7.heap[q]? = some (.cells cs 29 z))
    have hfin := fun (x y : Value) => (dw7.setCell (p := ⟨W1.heap.size, 0, none⟩) (by show w.heap.size ≤ W1.heap.size; omega) x).setCell (p := ⟨W2.heap.size, 0, none⟩) (by show w.heap.size ≤ W2.heap.size; omega) y
    have htc := fun (x y : Value) => two_cells (x := x) (y := y) c2 c3 (by omega)
    have hne : ¬ W1.heap.size = W2.heap.size := by omega
    have HX := Lib.hid (And.intro hRr (And.intro dw7 (And.intro hsto hfin)))
    have hRc := hR r w7 hRr
    clear hRr hR hsto hfin hdo hck hz
    rcases hRc with ⟨b7, rfl⟩ | ⟨e, rfl⟩
    · obtain ⟨r1, r2⟩ := htc (.bool b7) (.int .i64 0)
      have c4 : (w7.setCell ⟨W1.heap.size, 0, none⟩ (.bool b7)).cell? ⟨W2.heap.size, 0, none⟩ = some (.int .i64 0) := by
        rw [World.cell?_setCell_other _ _ _ _ (fun h => hne (by injection h))]; exact c3
      clear htc
      go_wp2
      refine leaves_cons (f := 94) (args := #[pw W1.heap.size, pw W2.heap.size]) (by simp) (by simp [go_sem]) ?_
      refine (catch_idle_bool ⟨W1.heap.size, 0, none⟩ ⟨W2.heap.size, 0, none⟩ _).mono ?_
      rintro e' u' w'' ⟨rfl, rfl, rfl⟩
      obtain ⟨hRr, dw7, hsto, hfin⟩ := HX.out
      simp [Leaves, settle, results, Try.results49, go_sem, r1, r2]
      exact ⟨hfin _ _, _, w7, hRr, dw7, ⟨hsto _ _⟩, .inl rfl⟩
    · obtain ⟨r1, r2⟩ := htc (.bool false) (.int .i64 e)
      clear htc
      go_wp2
      refine leaves_cons (f := 94) (args := #[pw W1.heap.size, pw W2.heap.size]) (by simp) (by simp [go_sem]) ?_
      refine (catch_err_bool ⟨W1.heap.size, 0, none⟩ ⟨W2.heap.size, 0, none⟩ _ _ e [] _ c2 g2 c3 g3 hne).mono ?_
      rintro e' u' w'' ⟨rfl, rfl, rfl⟩
      obtain ⟨hRr, dw7, hsto, hfin⟩ := HX.out
      simp [Leaves, settle, results, Try.results49, go_sem, r1, r2]
      exact ⟨hfin _ _, _, w7, hRr, dw7, ⟨hsto _ _⟩, .inr rfl⟩
end Go.Proofs.Ytakldmbbmefnbaa
