/- A range over a function, in a form that fits iterators over memory: the caller's law and the iterator's contract. -/
import Derived.Test.YtakldmbbmefnbaaData
import Derived.RangeFuncGives
import Derived.RangeFuncBound
import Derived.RangeFuncCalls
import Derived.RangeFuncLeaves
import Derived.LoopNIn
import Derived.LoopIn
import Derived.TacticsInMore
namespace Go.Proofs.Ytakldmbbmefnbaa
open Go.RowKit

/-- The objects that the machine keeps of a loop over a function. -/
def isCtl : Obj → Bool
  | .loop _ => true
  | .deferred _ => true
  | _ => false

/-- Every object lies as it lay, but for those of loops from block B on. -/
structure Near (B : Nat) (w w' : World) : Prop where
  os : w'.os = w.os
  tape : w'.tape = w.tape
  output : w'.output = w.output
  size : w.heap.size ≤ w'.heap.size
  block : ∀ (k : Nat) (o : Obj), w.heap[k]? = some o → (k < B ∨ isCtl o = false) → w'.heap[k]? = some o

/-- The objects of loops lie as they lay. -/
structure KeepC (w w' : World) : Prop where
  size : w.heap.size ≤ w'.heap.size
  block : ∀ (k : Nat) (o : Obj), w.heap[k]? = some o → isCtl o = true → w'.heap[k]? = some o

section
variable {B : Nat} {a w w' w'' : World}
theorem Near.refl (B : Nat) (w : World) : Near B w w := ⟨rfl, rfl, rfl, Nat.le_refl _, fun _ _ h _ => h⟩
theorem Near.of_below (h : Below w.heap.size w w') : Near B w w' := ⟨h.os, h.tape, h.output, h.size, fun k _ hk _ => (h.block k (Array.getElem?_eq_some_iff.1 hk).1).trans hk⟩
theorem Near.cell {p : Addr} {v : Value} (h : Near B w w') (hc : w.cell? p = some v) : w'.cell? p = some v := by
  have hb := World.block_lt_of_cell? w p hc
  have ho : w.heap[p.block]? = some w.heap[p.block] := Array.getElem?_eq_getElem hb
  have hctl : isCtl w.heap[p.block] = false := by
    unfold World.cell? at hc
    rw [ho] at hc
    revert hc
    cases w.heap[p.block] <;> simp [isCtl]
  have := h.block _ _ ho (.inr hctl)
  rw [← hc]
  exact World.cell?_of_block (this.trans ho.symm)
theorem Near.cells {k : Nat} {c : Array Value} {t : TypeId} {z : Nat × Nat} (h : Near B w w') (hc : w.heap[k]? = some (.cells c t z)) : w'.heap[k]? = some (.cells c t z) := h.block _ _ hc (.inr rfl)
theorem Near.map {k : Nat} {es : Array MapEntry} {z : Nat} (h : Near B w w') (hc : w.heap[k]? = some (.map es z)) : w'.heap[k]? = some (.map es z) := h.block _ _ hc (.inr rfl)
theorem Near.below {n : Nat} (h : Near B w w') (ha : Below n a w) (hn : n ≤ B) (hw : n ≤ a.heap.size) : Below n a w' :=
  ⟨h.os.trans ha.os, h.tape.trans ha.tape, h.output.trans ha.output, Nat.le_trans ha.size h.size, fun k hk => by
    have hlt : k < a.heap.size := by omega
    have ho : w.heap[k]? = some a.heap[k] := (ha.block k hk).trans (Array.getElem?_eq_getElem hlt)
    rw [h.block k _ ho (.inl (by omega)), Array.getElem?_eq_getElem hlt]⟩
theorem Near.own {α : Type} {enc : α → List Value} {size : Nat} {e : TypeId} {base : Nat} {v : Value} {xs : List α} (h : Near B w w') (ho : Own enc size e w base v xs) : Own enc size e w' base v xs := by
  rcases ho with ho | ⟨b, cap, cur, rfl, hb, hp, h1, h2, hh, rest⟩
  · exact .inl ho
  · exact .inr ⟨b, cap, cur, rfl, hb, hp, h1, h2, h.cells hh, rest⟩

theorem KeepC.refl (w : World) : KeepC w w := ⟨Nat.le_refl _, fun _ _ h _ => h⟩
theorem KeepC.trans (h : KeepC w w') (k : KeepC w' w'') : KeepC w w'' := ⟨Nat.le_trans h.size k.size, fun i o hi ho => k.block i o (h.block i o hi ho) ho⟩
theorem KeepC.of_below (h : Below w.heap.size w w') : KeepC w w' := ⟨h.size, fun k _ hk _ => (h.block k (Array.getElem?_eq_some_iff.1 hk).1).trans hk⟩
theorem KeepC.drew (h : KeepC a w) : KeepC a w.drew := ⟨h.size, h.block⟩
theorem KeepC.drewN (h : KeepC a w) (n : Nat) : KeepC a (w.drewN n) := ⟨h.size, h.block⟩
theorem KeepC.alloc (h : KeepC a w) (o : Obj) : KeepC a (w.alloc o) := h.trans (KeepC.of_below (alloc1 w o))
theorem KeepC.below (h : KeepC a w) (hb : Below w.heap.size w w') : KeepC a w' := h.trans (KeepC.of_below hb)
theorem KeepC.setCell (h : KeepC a w) (p : Addr) (u : Value) : KeepC a (w.setCell p u) :=
  h.trans ⟨by show w.heap.size ≤ (w.heap.modify _ _).size; rw [Array.size_modify]; exact Nat.le_refl _, fun k o hk ho => by
    by_cases e : k = p.block
    · subst e
      obtain ⟨hlt, hk'⟩ := Array.getElem?_eq_some_iff.1 hk
      show (w.heap.modify p.block _)[p.block]? = some o
      rw [Array.getElem?_eq_getElem (by rw [Array.size_modify]; exact hlt), Array.getElem_modify_self, hk']
      cases o <;> first | rfl | (simp [isCtl] at ho)
    · exact (Below.heap_setCell w p u k e).trans hk⟩
theorem KeepC.grown {row : Option Nat} (h : KeepC a w) (hg : w.grownBy w' row) (hr : ∀ k, row = some k → ∃ o, w.heap[k]? = some o ∧ isCtl o = false) : KeepC a w' :=
  h.trans ⟨hg.size, fun k o hk ho => by
    refine (hg.block k (Array.getElem?_eq_some_iff.1 hk).1 (fun e => ?_)).trans hk
    obtain ⟨o', h1, h2⟩ := hr k e.symm
    rw [hk] at h1; cases h1; rw [ho] at h2; cases h2⟩
end

/-- What an own row's block is. -/
theorem Own.ctl {α : Type} {enc : α → List Value} {size : Nat} {e : TypeId} {w : World} {base : Nat} {v : Value} {xs : List α} (h : Own enc size e w base v xs) : ∀ k, blk v = some k → ∃ o, w.heap[k]? = some o ∧ isCtl o = false := by
  intro k hk
  rcases h with ⟨rfl, A, rfl⟩ | ⟨b, cap, cur, rfl, hb, hp, _, _, hg, _⟩
  · cases A <;> simp [blk] at hk
  · obtain ⟨m, rfl⟩ : ∃ m, cap = m + 1 := ⟨cap - 1, by omega⟩
    simp [blk] at hk
    subst hk
    exact ⟨_, hg, rfl⟩

/-- The iterator value '.func (.func g) #[] lb' tells the rows xs of values, one behind the other, wherever D holds. -/
def IterAt (P : Program) (g : Nat) (lb : Array Value) (xs : List (Array Value)) (D : World → Prop) : Prop :=
  ∀ (l : Nat) (I : Nat → World → Prop) (J : World → Prop) (w : World),
    (∀ k W W', I k W → Below W.heap.size W W' → I k W') → (∀ W W', J W → Below W.heap.size W W' → J W') → (∀ k W, I k W → D W) →
    (∀ k (hk : k < xs.length) W, I k W → YieldAt Fence.wide 0 P l xs[k] W fun e W' => (e = .returned (.bool true) ∧ I (k + 1) W') ∨ (e = .returned (.bool false) ∧ J W')) →
    I 0 w → Calls P g (#[.func (.yield l) #[] #[]] ++ lb) w fun e W' => (∃ v, e = .returned v) ∧ (I xs.length W' ∨ J W')

/-- How the body of a round may be left. -/
def roundEnd (I : Nat → World → Prop) (J : Code → World → Prop) (k : Nat) (W : World) : Exit → Act → World → Prop
  | .normal, _, W' => KeepC W W' ∧ I (k + 1) W'
  | .ret, _, W' => KeepC W W' ∧ J .ret W'
  | .exit id, _, W' => KeepC W W' ∧ J (.exit id) W'
  | .goto t, _, W' => KeepC W W' ∧ J (.goto t) W'
  | .panic _, _, _ => False
  | .outgrown, _, _ => False

variable {P : Program}
/-- **The statement 'for .. := range g { .. }'**, g an iterator that tells xs. -/
theorem wp_rangeFunc_iter {n : Nat} {g : Operand} {ps : Array Tmp} {assign body : Code} {Q : Exit → Act → World → Prop} {a : Act} {w : World} {gf : Nat} {lb : Array Value}
    (hg : a.eval g = .func (.func gf) #[] lb) (eg : ∀ args w, (callFunc gf args).run P w = .ok (.enter gf args) w) {xs : List (Array Value)} {D : World → Prop} (hseq : IterAt P gf lb xs D) (hps : ∀ x ∈ xs, x.size = ps.size)
    (I : Nat → World → Prop) (J : Code → World → Prop) (hI : ∀ k W W', I k W → Near w.heap.size W W' → I k W') (hJ : ∀ c W W', J c W → Near w.heap.size W W' → J c W') (hD : ∀ k W, I k W → D W) (h0 : I 0 w)
    (hround : ∀ (l k : Nat) (hk : k < xs.length) (W : World), I k W →
      assign.wpIn (Fence.wide.inRound l) 0 P (Exit.then (fun a1 W1 => KeepC W W1 ∧ ∀ W2, Near w.heap.size W1 W2 → body.wpIn (Fence.wide.inRound l) 0 P (roundEnd I J k W2) a1 W2) (fun _ _ _ => False))
        { tmps := (ps.zip xs[k]).foldl (fun t (p, v) => t.setIfInBounds p v) a.tmps, defers := [] } W)
    (hdone : ∀ (Dk : Nat) (W : World), w.heap.size ≤ Dk → I xs.length W → W.heap[Dk]? = some (.deferred (some [])) → Q .normal { a with defers := { target := .collected Dk, args := #[] } :: a.defers } W)
    (hstop : ∀ (Dk : Nat) (c : Code) (W : World), w.heap.size ≤ Dk → J c W → W.heap[Dk]? = some (.deferred (some [])) → c.wpIn Fence.wide n P Q { a with defers := { target := .collected Dk, args := #[] } :: a.defers } W) :
    (Code.rangeFunc g ps assign body).wpIn Fence.wide n P Q a w := by
  refine wpIn_rangeFunc ?_
  intro fn hfn
  show ∃ (l : Nat) (mark : List Deferred) (w₁ : World) (d : Deferred) (w₁' : World) (f : FuncId) (args : Array Value) (w₂ : World), (Instr.enterLoop fn a.tmps ps assign body none).run P w = .ok (l, mark) w₁ ∧ _
  obtain ⟨rec, hrec⟩ : ∃ rec : LoopState → Option Code → Loop, rec = fun st pe => { state := st, pending := pe, fn, tmps := a.tmps, params := ps, assign, body, defers := w.heap.size } := ⟨_, rfl⟩
  obtain ⟨W1, hW1⟩ : ∃ W1, (w.alloc (.deferred (some []))).alloc (.loop (rec .ready none)) = W1 := ⟨_, rfl⟩
  have hL1 : W1.heap[w.heap.size + 1]? = some (.loop (rec .ready none)) := by
    rw [← hW1]; have := World.alloc_heap_new (w.alloc (.deferred (some []))) (.loop (rec .ready none)); rwa [World.size_alloc] at this
  have hK1 : W1.heap[w.heap.size]? = some (.deferred (some [])) := by
    rw [← hW1]; exact (Below.heap_alloc _ _ _ (by simp)).trans (World.alloc_heap_new w _)
  have hB1 : Below w.heap.size w W1 := by rw [← hW1]; exact below_next (alloc1 w _) (alloc1 _ _)
  have putNear : ∀ (W : World) (o o' : Obj) (r : Nat), w.heap.size ≤ r → W.heap[r]? = some o → isCtl o = true → Near w.heap.size W (W.putObj r o') := by
    intro W o o' r hr ho hc
    refine ⟨rfl, rfl, rfl, by simp, fun k o1 hk h => ?_⟩
    have hne : k ≠ r := by
      rintro rfl
      rw [ho] at hk; cases hk
      rcases h with h | h
      · omega
      · rw [hc] at h; cases h
    rw [World.putObj_heap_other hne]; exact hk
  refine ⟨w.heap.size + 1, [{ target := .collected w.heap.size, args := #[] }], W1, { target := .fn (.func gf) lb, args := #[.func (.yield (w.heap.size + 1)) #[] #[]] }, W1, gf,
    #[.func (.yield (w.heap.size + 1)) #[] #[]] ++ lb, W1, ?_, ?_, ?_, ?_, fun h => by simp [Fence.wide] at h, ?_⟩
  · rw [← hW1, hrec]; exact run_enterLoop_outer _ _ _ _ _
  · simp only [resolve, hg]
    simp [go_sem]
  · intro f' hf'; trivial
  · simp [invoke, go_sem, eg]
  · refine callsIn_wide.2 ((hseq (w.heap.size + 1)
      (fun k W => I k W ∧ W.heap[w.heap.size + 1]? = some (.loop (rec .ready none)) ∧ W.heap[w.heap.size]? = some (.deferred (some [])))
      (fun W => ∃ c, J c W ∧ W.heap[w.heap.size + 1]? = some (.loop (rec .done (some c))) ∧ W.heap[w.heap.size]? = some (.deferred (some []))) W1 ?_ ?_ ?_ ?_ ⟨hI _ _ _ h0 (Near.of_below hB1), hL1, hK1⟩).mono ?_)
    · rintro k W W' ⟨hi, hl, hk⟩ hb
      exact ⟨hI _ _ _ hi (Near.of_below hb), (hb.block _ (Array.getElem?_eq_some_iff.1 hl).1).trans hl, (hb.block _ (Array.getElem?_eq_some_iff.1 hk).1).trans hk⟩
    · rintro W W' ⟨c, hi, hl, hk⟩ hb
      exact ⟨c, hJ _ _ _ hi (Near.of_below hb), (hb.block _ (Array.getElem?_eq_some_iff.1 hl).1).trans hl, (hb.block _ (Array.getElem?_eq_some_iff.1 hk).1).trans hk⟩
    · rintro k W ⟨hi, _⟩
      exact hD _ _ hi
    · rintro k hk W ⟨hi, hl, hd⟩
      have hy := run_yield (P := P) (args := xs[k]) hl (by rw [hrec]; exact hps _ (List.getElem_mem hk))
      rw [hrec] at hy
      refine ⟨fn, _, assign, body, hy, roundIn_of_wpIn hfn (wpIn_mono (hround (w.heap.size + 1) k hk W hi) ?_)⟩
      rintro e a1 W2 hp
      cases e with
      | normal =>
        obtain ⟨hk2, hbody⟩ := hp
        have hl2 := hk2.block _ _ hl rfl
        have hd2 := hk2.block _ _ hd rfl
        refine ⟨_, run_beginRound hl2 (by rw [hrec]), ?_⟩
        have hlt := (Array.getElem?_eq_some_iff.1 hl2).1
        have hl3 : (W2.putObj (w.heap.size + 1) (.loop { rec .ready none with state := .busy })).heap[w.heap.size + 1]? = some (.loop { rec .ready none with state := .busy }) := World.putObj_heap_same hlt
        have hd3 : (W2.putObj (w.heap.size + 1) (.loop { rec .ready none with state := .busy })).heap[w.heap.size]? = some (.deferred (some [])) := (World.putObj_heap_other (by omega)).trans hd2
        refine wpIn_mono (hbody _ (putNear _ _ _ _ (by omega) hl2 rfl)) ?_
        have fin : ∀ (jump : Option Code) (W3 : World), KeepC (W2.putObj (w.heap.size + 1) (.loop { rec .ready none with state := .busy })) W3 →
            (Instr.endRound (w.heap.size + 1) jump).run P W3 = .ok (.bool jump.isNone) (W3.putObj (w.heap.size + 1) (.loop (rec (if jump.isNone then .ready else .done) jump))) ∧
            Near w.heap.size W3 (W3.putObj (w.heap.size + 1) (.loop (rec (if jump.isNone then .ready else .done) jump))) ∧
            (W3.putObj (w.heap.size + 1) (.loop (rec (if jump.isNone then .ready else .done) jump))).heap[w.heap.size + 1]? = some (.loop (rec (if jump.isNone then .ready else .done) jump)) ∧
            (W3.putObj (w.heap.size + 1) (.loop (rec (if jump.isNone then .ready else .done) jump))).heap[w.heap.size]? = some (.deferred (some [])) := fun jump W3 hk3 => by
          have hl4 := hk3.block _ _ hl3 rfl
          have := run_endRound (P := P) jump hl4
          rw [hrec] at this ⊢
          exact ⟨this, putNear _ _ _ _ (by omega) hl4 rfl, World.putObj_heap_same (Array.getElem?_eq_some_iff.1 hl4).1, (World.putObj_heap_other (by omega)).trans (hk3.block _ _ hd3 rfl)⟩
        rintro e a3 W3 hp
        cases e with
        | normal =>
          obtain ⟨hk3, hi3⟩ := hp
          obtain ⟨hr, hn4, hl4, hd4⟩ := fin none W3 hk3
          exact ⟨_, _, hr, .inl ⟨rfl, hI _ _ _ hi3 hn4, hl4, hd4⟩⟩
        | ret =>
          obtain ⟨hk3, hi3⟩ := hp
          obtain ⟨hr, hn4, hl4, hd4⟩ := fin (some .ret) W3 hk3
          exact ⟨_, _, hr, .inr ⟨rfl, .ret, hJ _ _ _ hi3 hn4, hl4, hd4⟩⟩
        | exit id =>
          obtain ⟨hk3, hi3⟩ := hp
          obtain ⟨hr, hn4, hl4, hd4⟩ := fin (some (.exit id)) W3 hk3
          exact ⟨_, _, hr, .inr ⟨rfl, .exit id, hJ _ _ _ hi3 hn4, hl4, hd4⟩⟩
        | goto t =>
          obtain ⟨hk3, hi3⟩ := hp
          obtain ⟨hr, hn4, hl4, hd4⟩ := fin (some (.goto t)) W3 hk3
          exact ⟨_, _, hr, .inr ⟨rfl, .goto t, hJ _ _ _ hi3 hn4, hl4, hd4⟩⟩
        | panic ch => exact hp.elim
        | outgrown => exact hp.elim
      | ret => exact (hp : False).elim
      | exit id => exact (hp : False).elim
      | goto t => exact (hp : False).elim
      | panic ch => exact (hp : False).elim
      | outgrown => exact (hp : False).elim
    · rintro e W2 ⟨⟨v, rfl⟩, (⟨hi, hl, hk⟩ | ⟨c, hi, hl, hk⟩)⟩
      · exact ⟨none, _, by have := run_endLoop (P := P) hl (by rw [hrec]; simp); rw [hrec] at this; exact this,
          hdone _ _ (Nat.le_refl _) (hI _ _ _ hi (putNear _ _ _ _ (by omega) hl rfl)) ((World.putObj_heap_other (by omega)).trans hk)⟩
      · exact ⟨some c, _, by have := run_endLoop (P := P) hl (by rw [hrec]; simp); rw [hrec] at this; exact this,
          hstop _ c _ (Nat.le_refl _) (hJ _ _ _ hi (putNear _ _ _ _ (by omega) hl rfl)) ((World.putObj_heap_other (by omega)).trans hk)⟩
end Go.Proofs.Ytakldmbbmefnbaa
