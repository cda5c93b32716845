/- Sets of bytes, edges and automata as plain data, and how they lie in memory. -/
import Derived.Test.YtakldmbbmefnbaaLift
namespace Go.Proofs.Ytakldmbbmefnbaa
open Go.RowKit

/-- A set of bytes: four words. -/
structure BSet where
  w0 : BitVec 64
  w1 : BitVec 64
  w2 : BitVec 64
  w3 : BitVec 64
deriving DecidableEq

/-- The word of a byte. -/
def BSet.word (s : BSet) : Nat → BitVec 64
  | 0 => s.w0
  | 1 => s.w1
  | 2 => s.w2
  | _ => s.w3

/-- Is a byte in a set? -/
def BSet.has (s : BSet) (b : Nat) : Bool := (s.word (b / 64)).getLsbD (b % 64)

structure E where
  src : Int
  dst : Int
  free : Bool
  set : BSet
deriving DecidableEq

structure A where
  states : Int
  start : List Int
  final : List Int
  edges : List E
deriving DecidableEq

def encI (n : Int) : List Value := [.int .i64 n]
def encB (b : Bool) : List Value := [.bool b]
def vS (s : BSet) : Value := .agg #[.int .u64 s.w0.toNat, .int .u64 s.w1.toNat, .int .u64 s.w2.toNat, .int .u64 s.w3.toNat]
def encE (e : E) : List Value := [.int .i64 e.src, .int .i64 e.dst, .bool e.free, .int .u64 e.set.w0.toNat, .int .u64 e.set.w1.toNat, .int .u64 e.set.w2.toNat, .int .u64 e.set.w3.toNat]
def vE (e : E) : Value := .agg #[.int .i64 e.src, .int .i64 e.dst, .bool e.free, .int .u64 e.set.w0.toNat, .int .u64 e.set.w1.toNat, .int .u64 e.set.w2.toNat, .int .u64 e.set.w3.toNat]

abbrev Ints (w : World) (B : Nat) (v : Value) (xs : List Int) : Prop := Sl encI 1 w B v xs
abbrev Edges (w : World) (B : Nat) (v : Value) (xs : List E) : Prop := Sl encE 7 w B v xs

theorem encI_len (n : Int) : (encI n).length = 1 := rfl
theorem encE_len (e : E) : (encE e).length = 7 := rfl
theorem encI_one (n : Int) : ∀ u ∈ encI n, u.oneCell' = true := by simp [encI, Value.oneCell']
theorem encE_one (e : E) : ∀ u ∈ encE e, u.oneCell' = true := by simp [encE, Value.oneCell']

def vA (a : A) (vs vf ve : Value) : Value := .agg #[.int .i64 a.states, vs, vf, ve]
/-- The automaton's three slices. -/
structure FaAt (w : World) (B : Nat) (a : A) (vs vf ve : Value) : Prop where
  s : Ints w B vs a.start
  f : Ints w B vf a.final
  e : Edges w B ve a.edges

theorem word_at (s : BSet) (i : Nat) (h : i < 4) : [Value.int IntKind.u64 (s.w0.toNat : Int), Value.int IntKind.u64 (s.w1.toNat : Int), Value.int IntKind.u64 (s.w2.toNat : Int), Value.int IntKind.u64 (s.w3.toNat : Int)][i]? = some (.int .u64 ((s.word i).toNat : Int)) := by
  match i, h with
  | 0, _ => rfl
  | 1, _ => rfl
  | 2, _ => rfl
  | 3, _ => rfl

/-- A function value that tells p of each value of D, and turns nothing that was there. -/
def Pred1 (P : Program) {α : Type} (val : α → Value) (fv : Value) (D : α → Prop) (p : α → Bool) (w : World) : Prop :=
  ∃ g lb, fv = .func (.func g) #[] lb ∧ (∀ args w, (callFunc g args).run P w = .ok (.enter g args) w) ∧
    ∀ W x, D x → Below w.heap.size w W → Calls P g (#[val x] ++ lb) W (fun r W' => r = .returned (.bool (p x)) ∧ Below W.heap.size W W')

theorem Pred1.below {P : Program} {α : Type} {val : α → Value} {fv : Value} {D : α → Prop} {p : α → Bool} {w w' : World} (h : Pred1 P val fv D p w) (hb : Below w.heap.size w w') : Pred1 P val fv D p w' := by
  obtain ⟨g, lb, h1, h2, h3⟩ := h
  exact ⟨g, lb, h1, h2, fun W x hd hw => h3 W x hd (below_next hb hw)⟩

/-- The first place where p holds, or -1. -/
def idxOf {α : Type} (p : α → Bool) (xs : List α) : Int := match xs.findIdx? p with | some i => (i : Int) | none => -1

theorem idxOf_any {α : Type} (p : α → Bool) (xs : List α) : decide (0 ≤ idxOf p xs) = xs.any p := by
  unfold idxOf
  cases h : xs.findIdx? p with
  | none =>
    have := List.findIdx?_eq_none_iff.1 h
    simp only []
    rw [Bool.eq_iff_iff]
    simp [List.any_eq_true]
    exact fun x hx => by simpa using this x hx
  | some i =>
    have := List.findIdx?_eq_some_iff_getElem.1 h
    obtain ⟨hi, hp, _⟩ := this
    simp only []
    rw [Bool.eq_iff_iff]
    simp [List.any_eq_true]
    exact ⟨_, List.getElem_mem hi, hp⟩

theorem idxOf_at {α : Type} {p : α → Bool} {xs : List α} {k : Nat} (hk : k < xs.length) (h : ∀ j (hj : j < k), p (xs[j]'(by omega)) = false) (hp : p xs[k] = true) : idxOf p xs = k := by
  have : xs.findIdx? p = some k := List.findIdx?_eq_some_iff_getElem.2 ⟨hk, hp, fun j hj => by simp [h j hj]⟩
  simp [idxOf, this]

theorem idxOf_none {α : Type} {p : α → Bool} {xs : List α} (h : ∀ j (hj : j < xs.length), p xs[j] = false) : idxOf p xs = -1 := by
  have : xs.findIdx? p = none := by
    rw [List.findIdx?_eq_none_iff]
    intro x hx
    obtain ⟨j, hj, rfl⟩ := List.getElem_of_mem hx
    simp [h j hj]
  simp [idxOf, this]

theorem cell1 {α : Type} {f : α → Value} {w : World} {xs : List α} {b o : Nat} {enc : α → List Value} (he : ∀ x, enc x = [f x])
    (hc : ∀ i x, xs[i]? = some x → ∀ j u, (enc x)[j]? = some u → w.cell? ⟨b, o + i * 1 + j, none⟩ = some u) {k : Nat} (hk : k < xs.length) : w.cell? ⟨b, o + k, none⟩ = some (f xs[k]) := by
  have := hc k xs[k] (List.getElem?_eq_getElem hk) 0 (f xs[k]) (by simp [he])
  simpa using this
theorem any_not {α : Type} (xs : List α) (p : α → Bool) : (xs.any fun x => !p x) = !xs.all p := by
  induction xs with
  | nil => rfl
  | cons y ys ih => simp only [List.any_cons, List.all_cons, ih]; cases p y <;> simp

theorem encI_eq (n : Int) : encI n = [.int .i64 n] := rfl

theorem cell7 {w : World} {xs : List E} {b o : Nat} (hc : ∀ i x, xs[i]? = some x → ∀ j u, (encE x)[j]? = some u → w.cell? ⟨b, o + i * 7 + j, none⟩ = some u) {k : Nat} (hk : k < xs.length) :
    w.cell? ⟨b, o + k * 7, none⟩ = some (.int .i64 xs[k].src) ∧ w.cell? ⟨b, o + k * 7 + 1, none⟩ = some (.int .i64 xs[k].dst) ∧ w.cell? ⟨b, o + k * 7 + 2, none⟩ = some (.bool xs[k].free) ∧
    w.cell? ⟨b, o + k * 7 + 3, none⟩ = some (.int .u64 xs[k].set.w0.toNat) ∧ w.cell? ⟨b, o + k * 7 + 4, none⟩ = some (.int .u64 xs[k].set.w1.toNat) ∧
    w.cell? ⟨b, o + k * 7 + 5, none⟩ = some (.int .u64 xs[k].set.w2.toNat) ∧ w.cell? ⟨b, o + k * 7 + 6, none⟩ = some (.int .u64 xs[k].set.w3.toNat) := by
  have h := hc k xs[k] (List.getElem?_eq_getElem hk)
  exact ⟨by simpa using h 0 _ rfl, h 1 _ rfl, h 2 _ rfl, h 3 _ rfl, h 4 _ rfl, h 5 _ rfl, h 6 _ rfl⟩
end Go.Proofs.Ytakldmbbmefnbaa
