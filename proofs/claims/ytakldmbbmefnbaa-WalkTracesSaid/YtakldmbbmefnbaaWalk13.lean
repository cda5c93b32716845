/- walk.Closure. -/
import Derived.Test.YtakldmbbmefnbaaTries1
import Derived.Test.YtakldmbbmefnbaaTries2
import Derived.Test.YtakldmbbmefnbaaTries3
import Derived.Test.YtakldmbbmefnbaaTries4
namespace Go.Proofs.Ytakldmbbmefnbaa
open Go.RowKit Go.Sort Go.Proofs
set_option maxRecDepth 100000
set_option maxHeartbeats 1000000

/-- Not too great an automaton. -/
structure Small (a : A) : Prop where
  n : a.states ≤ 1000
  short : Short a
theorem Small.fit {a : A} (h : Small a) (ho : a.ok = true) : Fit a := ⟨ho, h.n, h.short.s, h.short.f, h.short.e⟩

theorem Own.stored {α : Type} {enc : α → List Value} {size : Nat} {e T : TypeId} {W w' : World} {base : Nat} {v : Value} {xs : List α} (h : Own enc size e W base v xs) (hs : Stored T W w') (h1 : e ≠ T) (h2 : e ≠ 29) : Own enc size e w' base v xs := by
  obtain ⟨p, q, x, y, rfl, ⟨cs, z, hp⟩, cs2, z2, hq⟩ := hs.ex
  have o1 := h.setCell (p := ⟨p, 0, none⟩) (own_ne h hp h1) x
  exact o1.setCell (p := ⟨q, 0, none⟩) (own_ne h hq h2) y

/-- What a function that hands back numbers and an error hands back. -/
def IntsEnd (w w' : World) (r : Ending) : Except Int (List Int) → Prop
  | .ok l => ∃ v, r = .returned (.tuple #[v, .int .i64 0]) ∧ Own encI 1 3 w' w.heap.size v l
  | .error e => r = .returned (.tuple #[.slice none 0 0, .int .i64 e])

theorem IntsEnd.form {w w' : World} {r : Ending} {out : Except Int (List Int)} (h : IntsEnd w w' r out) : ∃ A n c e, r = .returned (.tuple #[.slice A n c, .int .i64 e]) := by
  cases out with
  | ok l =>
    obtain ⟨v, rfl, ho⟩ := h
    obtain ⟨A, c, rfl, _⟩ := ho.form
    exact ⟨_, _, _, _, rfl⟩
  | error e => exact ⟨_, _, _, _, h⟩
theorem IntsEnd.below {w w' w'' : World} {r : Ending} {out : Except Int (List Int)} (h : IntsEnd w w' r out) (hb : Below w'.heap.size w' w'') : IntsEnd w w'' r out := by
  cases out with
  | ok l =>
    obtain ⟨v, rfl, ho⟩ := h
    exact ⟨v, rfl, ho.below hb⟩
  | error e => exact h

/-- How what is tried ends. -/
def DoesEnd (w w' : World) (r : Ending) : Except Int (List Int) → Prop
  | .ok l => ∃ v, r = .returned v ∧ Own encI 1 3 w' w.heap.size v l
  | .error e => r = .panicked (errPanic e)

theorem tries_ints_end (a : A) (vs vf ve : Value) (g : Nat) (lb : Array Value) (w0 w : World) (h0 : w0.heap.size ≤ w.heap.size) (hen : ∀ args w, (callFunc g args).run Try.prog w = .ok (.enter g args) w) (hfa : FaAt w w.heap.size a vs vf ve) (hsh : Short a) (out : Except Int (List Int))
    (hdoes : a.ok = true → ∀ W b, Below w.heap.size w W → Wk W b a vs vf ve → Calls Try.prog g (#[pw b] ++ lb) W (fun r W' => DoesEnd W W' r out ∧ Below W.heap.size W W')) :
    Calls Try.prog 42 #[vA a vs vf ve, .func (.func g) #[] lb] w (fun r w' => IntsEnd w0 w' r (if a.ok = true then out else .error 260) ∧ Below w.heap.size w w') := by
  refine (tries_ints a vs vf ve g lb w hen hfa hsh (fun r W => ∃ W1, DoesEnd W1 W r out ∧ w0.heap.size ≤ W1.heap.size) ?_ ?_).mono ?_
  · rintro r W ⟨W1, h, _⟩
    cases out with
    | ok l =>
      obtain ⟨v, rfl, ho⟩ := h
      obtain ⟨A, c, rfl, _⟩ := ho.form
      exact .inl ⟨_, _, _, rfl⟩
    | error e => exact .inr ⟨_, h⟩
  · intro hok W b hW hk
    exact (hdoes hok W b hW hk).mono (fun r W' h => ⟨⟨W, h.1, Nat.le_trans h0 hW.size⟩, h.2⟩)
  · rintro r w' ⟨hb, h⟩
    refine ⟨?_, hb⟩
    rcases h with ⟨hok, rfl⟩ | ⟨hok, r0, W0, ⟨W1, hd, hw1⟩, _, hst, hr⟩
    · rw [hok]; rfl
    · rw [if_pos hok]
      cases out with
      | ok l =>
        obtain ⟨v, rfl, ho⟩ := hd
        rcases hr with ⟨v', h1, rfl⟩ | ⟨e, h1, _⟩
        · cases h1
          exact ⟨v, rfl, (ho.stored hst (by decide) (by decide)).lower hw1⟩
        · cases h1
      | error e =>
        have hd' : r0 = .panicked (errPanic e) := hd
        rcases hr with ⟨v', h1, _⟩ | ⟨e', h1, rfl⟩
        · rw [hd'] at h1; cases h1
        · rw [hd'] at h1
          have : e = e' := by simp [errPanic] at h1; exact h1
          subst this
          rfl

noncomputable def A.doClosure (a : A) (l : List Int) : Except Int (List Int) := if l.all (inB a.states) = true then .ok (a.clo l) else .error 2
theorem closure1_ok (b bs : Nat) (a : A) (vs vf ve vl : Value) (l : List Int) (w : World) (hk : Wk w b a vs vf ve) (ha : Fit a) (hc : w.cell? ⟨bs, 0, none⟩ = some vl) (hl : Ints w w.heap.size vl l) (hll : l.length ≤ 1000000) :
    Calls Try.prog 84 #[pw b, pw bs] w (fun r w' => DoesEnd w w' r (a.doClosure l) ∧ Below w.heap.size w w') := by
  have hth := there_ok b a vs vf ve vl l w hk hl hll
  obtain ⟨A0, c, rfl, _⟩ := id hl
  have hlt := World.block_lt_of_cell? _ _ hc
  unfold A.doClosure
  cases hin : l.all (inB a.states) with
  | true =>
    rw [hin] at hth
    have hne : needEnd true 2 = .returned (.tuple #[]) := rfl
    rw [hne] at hth
    have hcl := fun W (h : Below w.heap.size w W) => closure_ok b a vs vf ve _ l W (hk.below h) ha (hl.below h h.size) hin hll
    generalize a.clo l = cur at *
    clear hne hin hk hl
    go_enter Try.func84, Try.ntmps84
    go_wp2_with first
      | (go_at_call 56; refine hth.mono ?_; rintro e w1 ⟨rfl, d1⟩; have hc1 := (d1.cell (p := ⟨bs, 0, none⟩) hlt).trans hc)
      | (go_at_call 85; refine (hcl _ d1).mono ?_; rintro e w2 ⟨v2, rfl, ho2, d2⟩; obtain ⟨A2, c2, rfl, hle2⟩ := ho2.form)
    go_ret
    exact ⟨⟨_, rfl, ho2.lower d1.size⟩, below_next d1 d2⟩
  | false =>
    rw [hin] at hth
    have hne : needEnd false 2 = .panicked (errPanic 2) := rfl
    rw [hne] at hth
    clear hne hin hk hl
    go_enter Try.func84, Try.ntmps84
    go_wp2_with (go_at_call 56; refine hth.mono ?_; rintro e w1 ⟨rfl, d1⟩)
    exact ⟨rfl, rfl, d1⟩

theorem Closure_ok (a : A) (vs vf ve vl : Value) (l : List Int) (w : World) (hfa : FaAt w w.heap.size a vs vf ve) (hs : Small a) (hl : Ints w w.heap.size vl l) (hll : l.length ≤ 1000000) :
    Calls Try.prog 35 #[vA a vs vf ve, vl] w (fun r w' => IntsEnd w w' r (if a.ok = true then a.doClosure l else .error 260) ∧ Below w.heap.size w w') := by
  obtain ⟨As, cs, rfl, _⟩ := id hfa.s
  obtain ⟨Af, cf, rfl, _⟩ := id hfa.f
  obtain ⟨Ae, ce, rfl, _⟩ := id hfa.e
  obtain ⟨A0, c, rfl, _⟩ := id hl
  obtain ⟨W1, hW1⟩ : ∃ W1, w.alloc (.cells #[.int .i64 a.states, .slice As a.start.length cs, .slice Af a.final.length cf, .slice Ae a.edges.length ce] 25) = W1 := ⟨_, rfl⟩
  obtain ⟨W2, hW2⟩ : ∃ W2, W1.alloc (.cells #[.slice A0 l.length c] 22) = W2 := ⟨_, rfl⟩
  have d1 : Below w.heap.size w W1 := hW1 ▸ alloc1 w _
  have d2 : Below W1.heap.size W1 W2 := hW2 ▸ alloc1 W1 _
  have dw := below_next d1 d2
  have n1 : ∀ j, W1.cell? ⟨w.heap.size, j, none⟩ = _ := fun j => hW1 ▸ cell_new w _ _ j
  have hlt : w.heap.size < W1.heap.size := by rw [← hW1]; simp
  have e0 := (d2.cell (p := ⟨w.heap.size, 0, none⟩) hlt).trans (n1 0)
  have e1 := (d2.cell (p := ⟨w.heap.size, 1, none⟩) hlt).trans (n1 1)
  have e2 := (d2.cell (p := ⟨w.heap.size, 2, none⟩) hlt).trans (n1 2)
  have e3 := (d2.cell (p := ⟨w.heap.size, 3, none⟩) hlt).trans (n1 3)
  simp only [List.getElem?_toArray, List.getElem?_cons_zero, List.getElem?_cons_succ] at e0 e1 e2 e3
  have q1 : W2.cell? ⟨W1.heap.size, 0, none⟩ = some (.slice A0 l.length c) := by rw [← hW2, cell_new]; rfl
  have htr := tries_ints_end a _ _ _ 84 #[pw W1.heap.size] w W2 dw.size Try.call84 (hfa.below dw dw.size) hs.short (a.doClosure l)
    (fun hok W b hW hk => closure1_ok b W1.heap.size a _ _ _ _ l W hk (hs.fit hok) ((hW.cell (World.block_lt_of_cell? _ _ q1)).trans q1) (hl.below (below_next dw hW) (below_next dw hW).size) hll)
  unfold vA at htr ⊢
  generalize hout : (if a.ok = true then a.doClosure l else .error 260) = out at *
  clear hfa hl n1 hlt hout
  go_enter Try.func35, Try.ntmps35
  go_wp2_with (go_at_call 42; refine htr.mono ?_; rintro r w3 ⟨hE, d3⟩; obtain ⟨A5, n5, c5, e5, rfl⟩ := hE.form)
  refine bodyPost_ret (results_tmp2 rfl _ _ _) rfl ?_
  exact ⟨hE, below_next dw d3⟩
end Go.Proofs.Ytakldmbbmefnbaa
