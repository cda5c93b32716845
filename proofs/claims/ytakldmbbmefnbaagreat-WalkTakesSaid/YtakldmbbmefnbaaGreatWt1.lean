/- What the statement leans on, part 1: texts joined into one. -/
import Derived.WalkKit
import Derived.WalkLawsBesides
import Derived.WalkSpells
import Derived.Laws.EntriesVeiled
import Derived.Deep.Draws
import Derived.Lib.Hide
import Derived.OwnWalkIn
import Derived.Deep.QuietTactic
import Derived.BigQuiet
import Derived.RangeFuncGives
import Derived.RangeFuncBound
import Derived.RangeFuncCalls
import Derived.RangeFuncLeaves
import Derived.LoopNIn
import Derived.LoopIn
import Derived.TacticsInMore
import Derived.Test.YtakldmbbmefnbaaGreatProg
import Derived.Orders
import Derived.Outline
import Derived.OrdersIn
import Derived.Shelf.Sort.Plain
import Derived.Ground.Names2Prog
import Derived.Shelf.Slices.In.SortNone
import Derived.Ground.SlgnProg
import Derived.Sort.OwnSortedInts
import Derived.Sort.EncStr
import Derived.Laws.IdiomStrings
import Derived.Lib.SliceRun
/- The words of these proofs for memory: a slice that reads as a list, one that the call owns, and how worlds grow. -/
namespace Go.Proofs.YtakldmbbmefnbaaGreat
open Go.RowKit

/-- One cell a value. -/
def one {α : Type} (f : α → Value) (x : α) : List Value := [f x]

/-- The slice value v reads, below block B, as the list xs: element i are the cells 'enc x' from i * size on. -/
def Sl {α : Type} (enc : α → List Value) (size : Nat) (w : World) (B : Nat) (v : Value) (xs : List α) : Prop :=
  ∃ A c, v = .slice A xs.length c ∧ (0 < xs.length → ∃ b o, A = some ⟨b, o, none⟩ ∧ b < B ∧ ∀ i x, xs[i]? = some x → ∀ j u, (enc x)[j]? = some u → w.cell? ⟨b, o + i * size + j, none⟩ = some u)

/-- The block of a slice value that has room. -/
def blk : Value → Option Nat
  | .slice (some a) _ (_ + 1) => some a.block
  | _ => none

/-- The slice value v is a row of the call's own, of element type e, holding xs: nothing else is known to lie in its block, from block 'base' on. -/
def Own {α : Type} (enc : α → List Value) (size : Nat) (e : TypeId) (w : World) (base : Nat) (v : Value) (xs : List α) : Prop :=
  (xs = [] ∧ ∃ A, v = .slice A 0 0) ∨
  ∃ b cap cur, v = .slice (some ⟨b, 0, none⟩) xs.length cap ∧ base ≤ b ∧ 0 < cap ∧ xs.length ≤ cap ∧ cap ≤ maxLen ∧ w.heap[b]? = some (.cells cur e (0, 0)) ∧ cap * size ≤ cur.size ∧ cur.toList.take (xs.length * size) = xs.flatMap enc

section
variable {α : Type} {enc : α → List Value} {size : Nat} {e : TypeId} {w w' : World} {B B' base : Nat} {v : Value} {xs : List α}

theorem Sl.nil (A : Option Addr) (c : Nat) : Sl enc size w B (.slice A 0 c) ([] : List α) := ⟨A, c, rfl, fun h => absurd h (by simp)⟩

theorem Sl.keep (h : Sl enc size w B v xs) (hk : ∀ p : Addr, p.block < B → w'.cell? p = w.cell? p) (hB : B ≤ B') : Sl enc size w' B' v xs := by
  obtain ⟨A, c, hv, hr⟩ := h
  refine ⟨A, c, hv, fun hn => ?_⟩
  obtain ⟨b, o, hA, hb, hc⟩ := hr hn
  exact ⟨b, o, hA, by omega, fun i x hx j u hu => (hk _ hb).trans (hc i x hx j u hu)⟩

theorem Sl.below (h : Sl enc size w B v xs) (hb : Below B w w') (hB : B ≤ B') : Sl enc size w' B' v xs := h.keep (fun _ hp => hb.cell hp) hB
theorem Sl.more (h : Sl enc size w B v xs) (hB : B ≤ B') : Sl enc size w B' v xs := h.keep (fun _ _ => rfl) hB
theorem Sl.form (h : Sl enc size w B v xs) : ∃ A c, v = .slice A xs.length c := ⟨_, _, h.choose_spec.choose_spec.1⟩

theorem Own.form (h : Own enc size e w base v xs) : ∃ A c, v = .slice A xs.length c ∧ xs.length ≤ c := by
  rcases h with ⟨rfl, A, rfl⟩ | ⟨b, cap, cur, rfl, _, _, hc, _⟩
  · exact ⟨A, 0, rfl, by simp⟩
  · exact ⟨_, _, rfl, hc⟩

theorem Own.nil (A : Option Addr) : Own enc size e w base (.slice A 0 0) ([] : List α) := .inl ⟨rfl, A, rfl⟩

theorem Own.lt (h : Own enc size e w base v xs) : ∀ k, blk v = some k → base ≤ k ∧ k < w.heap.size := by
  intro k hk
  rcases h with ⟨rfl, A, rfl⟩ | ⟨b, cap, cur, rfl, hb, hp, _, _, hg, _⟩
  · cases A <;> simp [blk] at hk
  · obtain ⟨m, rfl⟩ : ∃ m, cap = m + 1 := ⟨cap - 1, by omega⟩
    simp [blk] at hk
    subst hk
    exact ⟨hb, (Array.getElem?_eq_some_iff.1 hg).1⟩

theorem Own.kept {row : Option Nat} (h : Own enc size e w base v xs) (hg : w.grownBy w' row) (hne : ∀ k, blk v = some k → row ≠ some k) : Own enc size e w' base v xs := by
  rcases h with h | ⟨b, cap, cur, rfl, hb, hp, h1, h2, hh, rest⟩
  · exact .inl h
  · refine .inr ⟨b, cap, cur, rfl, hb, hp, h1, h2, ?_, rest⟩
    obtain ⟨m, rfl⟩ : ∃ m, cap = m + 1 := ⟨cap - 1, by omega⟩
    rw [hg.block b (Array.getElem?_eq_some_iff.1 hh).1 (fun he => hne b (by simp [blk]) he.symm)]
    exact hh

theorem grownBy_of_below {row : Option Nat} (h : Below w.heap.size w w') : w.grownBy w' row := ⟨h.os, h.tape, h.output, h.size, fun k hk _ => h.block k hk⟩

theorem Own.below (h : Own enc size e w base v xs) (hb : Below w.heap.size w w') : Own enc size e w' base v xs :=
  h.kept (row := none) (grownBy_of_below hb) (by simp)

theorem Own.lower (h : Own enc size e w base v xs) {base' : Nat} (hb : base' ≤ base) : Own enc size e w base' v xs := by
  rcases h with h | ⟨b, cap, cur, rfl, h1, rest⟩
  · exact .inl h
  · exact .inr ⟨b, cap, cur, rfl, by omega, rest⟩

theorem flatMap_get {α : Type} {enc : α → List Value} {size : Nat} (hlen : ∀ x, (enc x).length = size) : ∀ (xs : List α) (i : Nat) (x : α) (j : Nat) (u : Value), xs[i]? = some x → (enc x)[j]? = some u → (xs.flatMap enc)[i * size + j]? = some u
  | [], i, x, j, u, hx, _ => by simp at hx
  | y :: ys, 0, x, j, u, hx, hu => by
    simp at hx; subst hx
    have hj : j < (enc y).length := (List.getElem?_eq_some_iff.1 hu).1
    simp [List.flatMap_cons, List.getElem?_append_left hj, hu]
  | y :: ys, i + 1, x, j, u, hx, hu => by
    simp at hx
    have := flatMap_get hlen ys i x j u hx hu
    rw [List.flatMap_cons, List.getElem?_append_right (by rw [hlen, Nat.succ_mul]; omega), hlen]
    rw [← this]
    congr 1
    rw [Nat.succ_mul]; omega

theorem flatMap_len {α : Type} {enc : α → List Value} {size : Nat} (hlen : ∀ x, (enc x).length = size) (xs : List α) : (xs.flatMap enc).length = xs.length * size := by
  induction xs with
  | nil => simp
  | cons y ys ih => rw [List.flatMap_cons, List.length_append, ih, hlen, List.length_cons, Nat.succ_mul]; omega

theorem Own.sl (hlen : ∀ x, (enc x).length = size) (h : Own enc size e w base v xs) : Sl enc size w w.heap.size v xs := by
  rcases h with ⟨rfl, A, rfl⟩ | ⟨b, cap, cur, rfl, hb, hp, h1, h2, hh, hs, ht⟩
  · exact Sl.nil A 0
  · refine ⟨_, _, rfl, fun _ => ⟨b, 0, rfl, (Array.getElem?_eq_some_iff.1 hh).1, fun i x hx j u hu => ?_⟩⟩
    have hg := flatMap_get hlen xs i x j u hx hu
    rw [← ht] at hg
    have hu' := List.getElem?_take .. ▸ hg
    split at hu'
    · simp [World.cell?, hh, ← hu']
    · simp at hu'
end

/-- Every block of w but those of S lies as it lay. -/
structure But (S : Nat → Prop) (w w' : World) : Prop where
  os : w'.os = w.os
  tape : w'.tape = w.tape
  output : w'.output = w.output
  size : w.heap.size ≤ w'.heap.size
  block : ∀ k, k < w.heap.size → ¬ S k → w'.heap[k]? = w.heap[k]?

section
variable {S T : Nat → Prop} {a w w' : World}
theorem But.refl (S : Nat → Prop) (w : World) : But S w w := ⟨rfl, rfl, rfl, Nat.le_refl _, fun _ _ _ => rfl⟩
theorem But.trans {b c : World} (h : But S a b) (k : But T b c) (hT : ∀ k, k < a.heap.size → T k → S k) : But S a c :=
  ⟨k.os.trans h.os, k.tape.trans h.tape, k.output.trans h.output, Nat.le_trans h.size k.size, fun i hi hs => (k.block i (Nat.lt_of_lt_of_le hi h.size) (fun ht => hs (hT i hi ht))).trans (h.block i hi hs)⟩
theorem But.mono (h : But S w w') (hs : ∀ k, k < w.heap.size → S k → T k) : But T w w' := ⟨h.os, h.tape, h.output, h.size, fun i hi ht => h.block i hi (fun s => ht (hs i hi s))⟩
theorem But.of_below (h : Below w.heap.size w w') : But S w w' := ⟨h.os, h.tape, h.output, h.size, fun i hi _ => h.block i hi⟩
theorem But.of_grown {row : Option Nat} (h : w.grownBy w' row) : But (fun k => row = some k) w w' := ⟨h.os, h.tape, h.output, h.size, fun i hi hn => h.block i hi (fun e => hn e.symm)⟩
theorem But.below (h : But (fun _ => False) w w') : Below w.heap.size w w' := ⟨h.os, h.tape, h.output, h.size, fun i hi => h.block i hi (fun x => x)⟩
theorem But.drew (h : But S a w) : But S a w.drew := ⟨h.os, h.tape, h.output, h.size, h.block⟩
theorem But.drewN (h : But S a w) (n : Nat) : But S a (w.drewN n) := ⟨h.os, h.tape, h.output, h.size, h.block⟩
theorem But.alloc (h : But S a w) (o : Obj) : But S a (w.alloc o) :=
  h.trans (T := S) ⟨rfl, rfl, rfl, by simp, fun k hk _ => Below.heap_alloc _ _ _ hk⟩ (fun _ _ x => x)
theorem But.setCell (h : But S a w) {p : Addr} (hp : p.block < a.heap.size → S p.block) (u : Value) : But S a (w.setCell p u) :=
  h.trans (T := fun k => k = p.block) ⟨rfl, rfl, rfl, by simp [World.setCell], fun k _ hn => Below.heap_setCell _ _ _ _ hn⟩ (fun k hk e => by subst e; exact hp hk)
theorem But.heap {k : Nat} {o : Obj} (h : But S w w') (hk : w.heap[k]? = some o) (hs : ¬ S k) : w'.heap[k]? = some o :=
  (h.block k (Array.getElem?_eq_some_iff.1 hk).1 hs).trans hk
theorem But.cell {p : Addr} {u : Value} (h : But S w w') (hp : w.cell? p = some u) (hs : ¬ S p.block) : w'.cell? p = some u :=
  (World.cell?_of_block (h.block p.block (World.block_lt_of_cell? w p hp) hs)).trans hp
theorem below_drewN {B : Nat} (h : Below B a w) (n : Nat) : Below B a (w.drewN n) := ⟨h.os, h.tape, h.output, h.size, h.block⟩
theorem below_next {b c : World} (h : Below a.heap.size a b) (k : Below b.heap.size b c) : Below a.heap.size a c := h.trans (k.mono h.size)
end

theorem cell_new (w : World) (cs : Array Value) (t j : Nat) : (w.alloc (.cells cs t)).cell? ⟨w.heap.size, j, none⟩ = cs[j]? := by
  have h := heap_alloc_new w (.cells cs t)
  unfold World.cell?
  rw [h]
  rfl

theorem alloc1 (w : World) (o : Obj) : Below w.heap.size w (w.alloc o) := (Below.refl _ _).alloc (Nat.le_refl _) _

section
variable {P : Program} (w : World) {α : Type} {enc : α → List Value}

theorem nextslicecap_le (need old : Nat) (h : old < need) : Builtin.nextslicecap need old ≤ 4 * need + 4096 := by
  unfold Builtin.nextslicecap
  split
  · omega
  · split
    · omega
    · simp only [Builtin.growBy]
      repeat' split
      all_goals omega

theorem run_append_grow0 (t ty e : TypeId) (i : TypeInfo) (z : Value) (ht : P.underlying t = some (.slice e)) (hi : P.info? e = some i) (hz : i.zero = some z) (A : Option Addr)
    (a : Addr) (n c : Nat) (news : List Value) (hl : news.length = n * i.size) (hnews : ∀ j v, news[j]? = some v → w.cell? (a.add j) = some v)
    (h0 : 0 < n) (h63 : n ≤ 4611686018427387904) (h48 : Builtin.nextslicecap n 0 * i.bytes ≤ 281474976710656) :
    (Builtin.append_ #[t, t] ty #[.slice A 0 0, .slice (some a) n c]).run P w =
      .ok (.slice (some ⟨w.heap.size, 0, none⟩) n (grownCap w n 0 e)) (w.drew.alloc (.cells (news.toArray ++ Builtin.zeroCells z.cells (grownCap w n 0 e - n)) e)) := by
  cases A with
  | none => exact run_append_nil w t ty e i z ht hi hz a n c news hl hnews h0 (by omega) (by rw [nextslicecap_zero h0] at h48; exact h48)
  | some b =>
    have h := run_append_grow (P := P) w t ty e i z ht hi hz b 0 0 [] (by simp) (by simp) a n c news hl hnews (by omega) (by omega) (by simpa using h48)
    simpa using h

/-- append onto a row of the call's own: what comes is a row of the call's own, in the same block or in a new one; no other block has turned. -/
theorem run_append_my {size bytes : Nat} (hlen : ∀ x, (enc x).length = size) (h1 : ∀ x, ∀ u ∈ enc x, u.oneCell' = true) (t ty e : TypeId) (i : TypeInfo) (z : Value)
    (ht : P.underlying t = some (.slice e)) (hi : P.info? e = some i) (hz : i.zero = some z) (hsize : i.size = size) (hby : i.bytes = bytes) (hzs : z.cells.size = size) (hsz : 0 < size)
    {base B : Nat} {v x : Value} {xs ys : List α} (hown : Own enc size e w base v xs) (hx : Sl enc size w B x ys)
    (hbytes : (4 * (xs.length + ys.length) + 4096) * bytes ≤ 140737488355328) (h63 : xs.length + ys.length ≤ 4611686018427387904) (hbase : base ≤ w.heap.size) :
    ∃ v' w', (Builtin.append_ #[t, t] ty #[v, x]).run P w = .ok v' w' ∧ Own enc size e w' base v' (xs ++ ys) ∧ w.grownBy w' (blk v) ∧ (blk v' = blk v ∨ blk v' = some w.heap.size ∨ blk v' = none) := by
  subst hsize; subst hby
  obtain ⟨A, c, rfl, hr⟩ := hx
  have hfl := flatMap_len hlen
  rcases Nat.eq_zero_or_pos ys.length with h0 | h0
  · -- nothing is appended
    have : ys = [] := List.eq_nil_of_length_eq_zero h0
    subst this
    refine ⟨v, w, ?_, by simpa using hown, ⟨rfl, rfl, rfl, Nat.le_refl _, fun _ _ _ => rfl⟩, .inl rfl⟩
    rcases hown with ⟨rfl, A', rfl⟩ | ⟨b, cap, cur, rfl, _, _, hc, _⟩
    · cases A <;> cases A' <;> simp [Builtin.append_, run_underlying ht, sizeOf, typeInfo, hi, Builtin.lenOf, Builtin.firstCells, loadCells, loadCellsFrom, storeCells]
    · cases A <;> simp [Builtin.append_, run_underlying ht, sizeOf, typeInfo, hi, Builtin.lenOf, Builtin.firstCells, hc, storeCells, loadCells, loadCellsFrom]
  · obtain ⟨b', o', rfl, _, hc'⟩ := hr h0
    have hnews : ∀ j u, (ys.flatMap enc)[j]? = some u → w.cell? ((⟨b', o', none⟩ : Addr).add j) = some u := by
      intro j u hu
      have hj : j < ys.length * i.size := by rw [← hfl]; exact (List.getElem?_eq_some_iff.1 hu).1
      have hq : j / i.size < ys.length := (Nat.div_lt_iff_lt_mul hsz).2 hj
      have hy : ys[j / i.size]? = some ys[j / i.size] := List.getElem?_eq_getElem hq
      have hm : j % i.size < (enc ys[j / i.size]).length := by rw [hlen]; exact Nat.mod_lt _ hsz
      have hu2 : (enc ys[j / i.size])[j % i.size]? = some (enc ys[j / i.size])[j % i.size] := List.getElem?_eq_getElem hm
      have hg := flatMap_get hlen ys _ _ _ _ hy hu2
      have hd : j / i.size * i.size + j % i.size = j := by rw [Nat.mul_comm]; exact Nat.div_add_mod j i.size
      rw [hd, hu] at hg
      have := hc' _ _ hy _ _ hu2
      rw [← hg] at this
      have ha : (⟨b', o', none⟩ : Addr).add j = ⟨b', o' + j, none⟩ := by unfold Addr.add; split <;> simp_all
      rw [ha, ← this]
      congr 2
      omega
    have hbig : ∀ old, old < xs.length + ys.length → Builtin.nextslicecap (xs.length + ys.length) old * i.bytes ≤ 281474976710656 := by
      intro old ho
      have := Nat.mul_le_mul_right i.bytes (nextslicecap_le (xs.length + ys.length) old ho)
      omega
    have grown : ∀ (old : Nat) (olds : List Value), olds = xs.flatMap enc → 
        Own enc i.size e (w.drew.alloc (.cells (olds.toArray ++ (ys.flatMap enc).toArray ++ Builtin.zeroCells z.cells (grownCap w (xs.length + ys.length) old e - (xs.length + ys.length))) e)) base
          (.slice (some ⟨w.heap.size, 0, none⟩) (xs.length + ys.length) (grownCap w (xs.length + ys.length) old e)) (xs ++ ys) := by
      intro old olds holds
      subst holds
      have hge := grownCap_ge w (xs.length + ys.length) old e
      refine .inr ⟨w.heap.size, grownCap w (xs.length + ys.length) old e, _, by simp, hbase, by omega, by simpa using hge, grownCap_le_maxLen w _ old e (by simp only [maxLen]; omega), heap_alloc_new w.drew _, ?_, ?_⟩
      · simp only [Array.size_append, List.size_toArray, size_zeroCells, hzs, hfl, ← Nat.add_mul]
        exact Nat.mul_le_mul_right _ (by omega)
      · have hl : (xs ++ ys).length * i.size = (xs.flatMap enc ++ ys.flatMap enc).length := by
          rw [List.length_append, List.length_append, hfl, hfl, Nat.add_mul]
        simp only [Array.toList_append]
        rw [hl, List.take_left, List.flatMap_append]
    rcases hown with ⟨rfl, A', rfl⟩ | ⟨b, cap, cur, rfl, hb, hp, h2, h3, hh, hs, htk⟩
    · have hr := run_append_grow0 (P := P) w t ty e i z ht hi hz A' ⟨b', o', none⟩ ys.length c (ys.flatMap enc) (hfl ys) hnews h0 (by simp at h63; omega) (by simpa using hbig 0 (by simp; omega))
      have hg := grown 0 [] (by simp)
      refine ⟨_, _, hr, ?_, ⟨rfl, rfl, rfl, by simp, fun k hk _ => Below.heap_alloc w.drew _ k hk⟩, ?_⟩
      · simpa using hg
      · have hge := grownCap_ge w ys.length 0 e
        obtain ⟨m, hm⟩ : ∃ m, grownCap w ys.length 0 e = m + 1 := ⟨grownCap w ys.length 0 e - 1, by omega⟩
        rw [hm]
        exact .inr (.inl rfl)
    · have hin : xs.length * i.size ≤ cur.size := Nat.le_trans (Nat.mul_le_mul_right _ h2) hs
      by_cases hroom : xs.length + ys.length ≤ cap
      · have hfit : xs.length * i.size + (ys.flatMap enc).length ≤ cur.size := by
          rw [hfl, ← Nat.add_mul]; exact Nat.le_trans (Nat.mul_le_mul_right _ hroom) hs
        have hr := run_append_room (P := P) w t ty e i ht hi b xs.length cap cur hh ⟨b', o', none⟩ ys.length c (ys.flatMap enc) (hfl ys) hnews
          (fun u hu => by obtain ⟨y, _, hy⟩ := List.mem_flatMap.1 hu; exact h1 y u hy) hroom hfit
        refine ⟨_, _, hr, .inr ⟨b, cap, (cur.toList.take (xs.length * i.size) ++ ys.flatMap enc ++ cur.toList.drop (xs.length * i.size + (ys.flatMap enc).length)).toArray, by simp, hb, hp, by simpa using hroom, h3, ?_, ?_, ?_⟩, ?_, .inl (by obtain ⟨m, rfl⟩ : ∃ m, cap = m + 1 := ⟨cap - 1, by omega⟩; rfl)⟩
        · have hlt := (Array.getElem?_eq_some_iff.1 hh).1
          have hx' : w.heap[b] = .cells cur e (0, 0) := by simpa [Array.getElem?_eq_getElem hlt] using hh
          show (w.heap.modify b _)[b]? = _
          rw [Array.getElem?_eq_getElem (by simpa using hlt), Array.getElem_modify_self, hx']
        · simp only [List.size_toArray, List.length_append, List.length_take, List.length_drop, Array.length_toList]
          omega
        · rw [htk]
          have hl : (xs ++ ys).length * i.size = (xs.flatMap enc ++ ys.flatMap enc).length := by
            rw [List.length_append, List.length_append, hfl, hfl, Nat.add_mul]
          simp only []
          rw [hl, List.take_left, List.flatMap_append]
        · obtain ⟨m, rfl⟩ : ∃ m, cap = m + 1 := ⟨cap - 1, by omega⟩
          refine ⟨rfl, rfl, rfl, by simp [World.setRow], fun k hk hne => ?_⟩
          show (w.heap.modify b _)[k]? = _
          have hkb : b ≠ k := fun e => hne (by simp [blk, e])
          rw [Array.getElem?_modify, if_neg hkb]
      · have holds : ∀ j u, (xs.flatMap enc)[j]? = some u → w.cell? ((⟨b, 0, none⟩ : Addr).add j) = some u := by
          intro j u hu
          have ha : (⟨b, 0, none⟩ : Addr).add j = ⟨b, j, none⟩ := by unfold Addr.add; split <;> simp_all
          rw [ha, cell_of_row w b j cur e (0, 0) hh]
          rw [← htk, List.getElem?_take] at hu
          split at hu
          · simpa using hu
          · cases hu
        have hr := run_append_grow (P := P) w t ty e i z ht hi hz ⟨b, 0, none⟩ xs.length cap (xs.flatMap enc) (hfl xs) holds ⟨b', o', none⟩ ys.length c (ys.flatMap enc) (hfl ys) hnews (by omega) (by omega) (hbig cap (by omega))
        have hg := grown cap _ rfl
        refine ⟨_, _, hr, hg, ⟨rfl, rfl, rfl, by simp, fun k hk _ => Below.heap_alloc w.drew _ k hk⟩, ?_⟩
        have hge := grownCap_ge w (xs.length + ys.length) cap e
        obtain ⟨m, hm⟩ : ∃ m, grownCap w (xs.length + ys.length) cap e = m + 1 := ⟨grownCap w (xs.length + ys.length) cap e - 1, by omega⟩
        rw [hm]
        exact .inr (.inl rfl)
end
end Go.Proofs.YtakldmbbmefnbaaGreat
/- append in a walk: a row of the call's own grows. -/
namespace Go.Proofs.YtakldmbbmefnbaaGreat
open Go.RowKit

theorem Sl_one {α : Type} {enc : α → List Value} {size : Nat} (W : World) (x : α) (t : TypeId) (c : Nat) : Sl enc size (W.alloc (.cells (enc x).toArray t)) (W.heap.size + 1) (.slice (some ⟨W.heap.size, 0, none⟩) 1 c) [x] := by
  refine ⟨_, _, rfl, fun _ => ⟨W.heap.size, 0, rfl, by omega, fun i y hy j u hu => ?_⟩⟩
  have : i = 0 := by
    rcases i with _ | i
    · rfl
    · simp at hy
  subst this
  simp at hy; subst hy
  rw [cell_new]
  simpa using hu

section
variable {P : Program} (w : World) {α : Type} {enc : α → List Value}

theorem wpList_append_my {ops : Array Oper} {rest : List Oper} {o : Oper} {a : Act} {Q : Exit → Act → World → Prop} (hgd : o.guard = none) (s x : Operand) (t : TypeId)
    (ho : o.op = .call { callee := .builtin .append, args := #[s, x], argTypes := #[t, t] })
    {size bytes : Nat} (hlen : ∀ x, (enc x).length = size) (h1 : ∀ x, ∀ u ∈ enc x, u.oneCell' = true) (e : TypeId) (i : TypeInfo) (z : Value)
    (ht : P.underlying t = some (.slice e)) (hi : P.info? e = some i) (hz : i.zero = some z) (hsize : i.size = size) (hby : i.bytes = bytes) (hzs : z.cells.size = size) (hsz : 0 < size)
    {base B : Nat} {v y : Value} {xs ys : List α} (hs : a.eval s = v) (hown : Own enc size e w base v xs) (hy : a.eval x = y) (hx : Sl enc size w B y ys)
    (hbytes : (4 * (xs.length + ys.length) + 4096) * bytes ≤ 140737488355328) (h63 : xs.length + ys.length ≤ 4611686018427387904) (hbase : base ≤ w.heap.size)
    (h : ∀ v' w', Own enc size e w' base v' (xs ++ ys) → w.grownBy w' (blk v) → (blk v' = blk v ∨ blk v' = some w.heap.size ∨ blk v' = none) → Below base w w' → wpList P ops Q rest (a.put o.dst v') w') : wpList P ops Q (o :: rest) a w := by
  refine wpList_plain hgd fun K hK => ?_
  obtain ⟨v', w', hrun, h2, h3, h4⟩ := run_append_my (P := P) w hlen h1 t o.type e i z ht hi hz hsize hby hzs hsz hown hx hbytes h63 hbase
  unfold Oper.wp execOp
  simp only [ho, resolve, invoke, builtin, Sem.run_bind, Sem.run_pure, Result.andThen_ok, List.map_toArray, List.map_cons, List.map_nil, hs, hy, hrun]
  exact hK _ _ (h v' w' h2 h3 h4 ((Below.refl base w).grown h3 hbase (fun k hk => (hown.lt k hk).1)))

theorem wpListIn_append_my {F : Fence} {n : Nat} {ops : Array Oper} {rest : List Oper} {o : Oper} {a : Act} {Q : Exit → Act → World → Prop} (hgd : o.guard = none) (s x : Operand) (t : TypeId)
    (ho : o.op = .call { callee := .builtin .append, args := #[s, x], argTypes := #[t, t] })
    {size bytes : Nat} (hlen : ∀ x, (enc x).length = size) (h1 : ∀ x, ∀ u ∈ enc x, u.oneCell' = true) (e : TypeId) (i : TypeInfo) (z : Value)
    (ht : P.underlying t = some (.slice e)) (hi : P.info? e = some i) (hz : i.zero = some z) (hsize : i.size = size) (hby : i.bytes = bytes) (hzs : z.cells.size = size) (hsz : 0 < size)
    {base B : Nat} {v y : Value} {xs ys : List α} (hs : a.eval s = v) (hown : Own enc size e w base v xs) (hy : a.eval x = y) (hx : Sl enc size w B y ys)
    (hbytes : (4 * (xs.length + ys.length) + 4096) * bytes ≤ 140737488355328) (h63 : xs.length + ys.length ≤ 4611686018427387904) (hbase : base ≤ w.heap.size)
    (h : ∀ v' w', Own enc size e w' base v' (xs ++ ys) → w.grownBy w' (blk v) → (blk v' = blk v ∨ blk v' = some w.heap.size ∨ blk v' = none) → Below base w w' → wpListIn F n P ops Q rest (a.put o.dst v') w') : wpListIn F n P ops Q (o :: rest) a w := by
  refine wpListIn_plain hgd fun K hK => ?_
  obtain ⟨v', w', hrun, h2, h3, h4⟩ := run_append_my (P := P) w hlen h1 t o.type e i z ht hi hz hsize hby hzs hsz hown hx hbytes h63 hbase
  unfold Oper.wpIn
  refine ⟨?_, ?_⟩
  · simp [Oper.about, ho, resolve, Target.leads, Sem.run_pure]
  · rw [Oper.semAt_plain F _ _ (by rw [ho]; intro c hc'; cases hc')]
    simp [execOp, ho, resolve, invoke, builtin, hs, hy, hrun, Result.andThen]
    exact hK _ _ (h v' w' h2 h3 h4 ((Below.refl base w).grown h3 hbase (fun k hk => (hown.lt k hk).1)))

/-- 'make([]T, n)', n a variable: a new block of zeroes. -/
theorem wpList_make_z {ops : Array Oper} {rest : List Oper} {o : Oper} {a : Act} {Q : Exit → Act → World → Prop}
    (hg : o.guard = none) (l c : Operand) (t : TypeId) (hop : o.op = Op.makeSlice t l c)
    (e : TypeId) (i : TypeInfo) (z : Value) (size : Nat) (h1 : P.underlying t = some (.slice e)) (h2 : P.info? e = some i) (h3 : i.zero = some z) (h4 : i.size = size)
    (n : Nat) (hl : a.eval l = .int .i64 n) (hc : a.eval c = .int .i64 n) (b2 : i.bytes * n ≤ 281474976710656) (b3 : n ≤ 4611686018427387904)
    (hK : wpList P ops Q rest (a.put o.dst (.slice (some ⟨w.heap.size, 0, none⟩) n n)) (w.alloc (.cells (madeCells z.cells (n * size)) e))) :
    wpList P ops Q (o :: rest) a w := by
  refine wpList_plain hg fun K hK' => ?_
  have hb : ((i.bytes * n : Nat) : Int) ≤ 281474976710656 := by omega
  rw [Int.natCast_mul] at hb
  have hrun := run_make (P := P) w t e i z h1 h2 h3 .i64 .i64 n n (by omega) (Int.le_refl _) hb (by omega)
  simp only [Int.toNat_natCast, h4] at hrun
  unfold Oper.wp
  simp [execOp, hop, hl, hc, hrun, Result.andThen]
  exact hK' _ _ hK
end
end Go.Proofs.YtakldmbbmefnbaaGreat
/- Sets of bytes, edges and automata as plain data, and how they lie in memory. -/
namespace Go.Proofs.YtakldmbbmefnbaaGreat
open Go.RowKit

/-- A set of bytes: four words. -/
structure BSet where
  w0 : BitVec 64
  w1 : BitVec 64
  w2 : BitVec 64
  w3 : BitVec 64
deriving DecidableEq

/-- The word of a byte. -/
def BSet.word (s : BSet) : Nat → BitVec 64
  | 0 => s.w0
  | 1 => s.w1
  | 2 => s.w2
  | _ => s.w3

/-- Is a byte in a set? -/
def BSet.has (s : BSet) (b : Nat) : Bool := (s.word (b / 64)).getLsbD (b % 64)

structure E where
  src : Int
  dst : Int
  free : Bool
  set : BSet
deriving DecidableEq

structure A where
  states : Int
  start : List Int
  final : List Int
  edges : List E
deriving DecidableEq

def encI (n : Int) : List Value := [.int .i64 n]
def encB (b : Bool) : List Value := [.bool b]
def vS (s : BSet) : Value := .agg #[.int .u64 s.w0.toNat, .int .u64 s.w1.toNat, .int .u64 s.w2.toNat, .int .u64 s.w3.toNat]
def encE (e : E) : List Value := [.int .i64 e.src, .int .i64 e.dst, .bool e.free, .int .u64 e.set.w0.toNat, .int .u64 e.set.w1.toNat, .int .u64 e.set.w2.toNat, .int .u64 e.set.w3.toNat]
def vE (e : E) : Value := .agg #[.int .i64 e.src, .int .i64 e.dst, .bool e.free, .int .u64 e.set.w0.toNat, .int .u64 e.set.w1.toNat, .int .u64 e.set.w2.toNat, .int .u64 e.set.w3.toNat]

abbrev Ints (w : World) (B : Nat) (v : Value) (xs : List Int) : Prop := Sl encI 1 w B v xs
abbrev Edges (w : World) (B : Nat) (v : Value) (xs : List E) : Prop := Sl encE 7 w B v xs

theorem encI_len (n : Int) : (encI n).length = 1 := rfl
theorem encE_len (e : E) : (encE e).length = 7 := rfl
theorem encI_one (n : Int) : ∀ u ∈ encI n, u.oneCell' = true := by simp [encI, Value.oneCell']
theorem encE_one (e : E) : ∀ u ∈ encE e, u.oneCell' = true := by simp [encE, Value.oneCell']

def vA (a : A) (vs vf ve : Value) : Value := .agg #[.int .i64 a.states, vs, vf, ve]
/-- The automaton's three slices. -/
structure FaAt (w : World) (B : Nat) (a : A) (vs vf ve : Value) : Prop where
  s : Ints w B vs a.start
  f : Ints w B vf a.final
  e : Edges w B ve a.edges

theorem word_at (s : BSet) (i : Nat) (h : i < 4) : [Value.int IntKind.u64 (s.w0.toNat : Int), Value.int IntKind.u64 (s.w1.toNat : Int), Value.int IntKind.u64 (s.w2.toNat : Int), Value.int IntKind.u64 (s.w3.toNat : Int)][i]? = some (.int .u64 ((s.word i).toNat : Int)) := by
  match i, h with
  | 0, _ => rfl
  | 1, _ => rfl
  | 2, _ => rfl
  | 3, _ => rfl

/-- A function value that tells p of each value of D, and turns nothing that was there. -/
def Pred1 (P : Program) {α : Type} (val : α → Value) (fv : Value) (D : α → Prop) (p : α → Bool) (w : World) : Prop :=
  ∃ g lb, fv = .func (.func g) #[] lb ∧ (∀ args w, (callFunc g args).run P w = .ok (.enter g args) w) ∧
    ∀ W x, D x → Below w.heap.size w W → Calls P g (#[val x] ++ lb) W (fun r W' => r = .returned (.bool (p x)) ∧ Below W.heap.size W W')

theorem Pred1.below {P : Program} {α : Type} {val : α → Value} {fv : Value} {D : α → Prop} {p : α → Bool} {w w' : World} (h : Pred1 P val fv D p w) (hb : Below w.heap.size w w') : Pred1 P val fv D p w' := by
  obtain ⟨g, lb, h1, h2, h3⟩ := h
  exact ⟨g, lb, h1, h2, fun W x hd hw => h3 W x hd (below_next hb hw)⟩

/-- The first place where p holds, or -1. -/
def idxOf {α : Type} (p : α → Bool) (xs : List α) : Int := match xs.findIdx? p with | some i => (i : Int) | none => -1

theorem idxOf_any {α : Type} (p : α → Bool) (xs : List α) : decide (0 ≤ idxOf p xs) = xs.any p := by
  unfold idxOf
  cases h : xs.findIdx? p with
  | none =>
    have := List.findIdx?_eq_none_iff.1 h
    simp only []
    rw [Bool.eq_iff_iff]
    simp [List.any_eq_true]
    exact fun x hx => by simpa using this x hx
  | some i =>
    have := List.findIdx?_eq_some_iff_getElem.1 h
    obtain ⟨hi, hp, _⟩ := this
    simp only []
    rw [Bool.eq_iff_iff]
    simp [List.any_eq_true]
    exact ⟨_, List.getElem_mem hi, hp⟩

theorem idxOf_at {α : Type} {p : α → Bool} {xs : List α} {k : Nat} (hk : k < xs.length) (h : ∀ j (hj : j < k), p (xs[j]'(by omega)) = false) (hp : p xs[k] = true) : idxOf p xs = k := by
  have : xs.findIdx? p = some k := List.findIdx?_eq_some_iff_getElem.2 ⟨hk, hp, fun j hj => by simp [h j hj]⟩
  simp [idxOf, this]

theorem idxOf_none {α : Type} {p : α → Bool} {xs : List α} (h : ∀ j (hj : j < xs.length), p xs[j] = false) : idxOf p xs = -1 := by
  have : xs.findIdx? p = none := by
    rw [List.findIdx?_eq_none_iff]
    intro x hx
    obtain ⟨j, hj, rfl⟩ := List.getElem_of_mem hx
    simp [h j hj]
  simp [idxOf, this]

theorem cell1 {α : Type} {f : α → Value} {w : World} {xs : List α} {b o : Nat} {enc : α → List Value} (he : ∀ x, enc x = [f x])
    (hc : ∀ i x, xs[i]? = some x → ∀ j u, (enc x)[j]? = some u → w.cell? ⟨b, o + i * 1 + j, none⟩ = some u) {k : Nat} (hk : k < xs.length) : w.cell? ⟨b, o + k, none⟩ = some (f xs[k]) := by
  have := hc k xs[k] (List.getElem?_eq_getElem hk) 0 (f xs[k]) (by simp [he])
  simpa using this
theorem any_not {α : Type} (xs : List α) (p : α → Bool) : (xs.any fun x => !p x) = !xs.all p := by
  induction xs with
  | nil => rfl
  | cons y ys ih => simp only [List.any_cons, List.all_cons, ih]; cases p y <;> simp

theorem encI_eq (n : Int) : encI n = [.int .i64 n] := rfl

theorem cell7 {w : World} {xs : List E} {b o : Nat} (hc : ∀ i x, xs[i]? = some x → ∀ j u, (encE x)[j]? = some u → w.cell? ⟨b, o + i * 7 + j, none⟩ = some u) {k : Nat} (hk : k < xs.length) :
    w.cell? ⟨b, o + k * 7, none⟩ = some (.int .i64 xs[k].src) ∧ w.cell? ⟨b, o + k * 7 + 1, none⟩ = some (.int .i64 xs[k].dst) ∧ w.cell? ⟨b, o + k * 7 + 2, none⟩ = some (.bool xs[k].free) ∧
    w.cell? ⟨b, o + k * 7 + 3, none⟩ = some (.int .u64 xs[k].set.w0.toNat) ∧ w.cell? ⟨b, o + k * 7 + 4, none⟩ = some (.int .u64 xs[k].set.w1.toNat) ∧
    w.cell? ⟨b, o + k * 7 + 5, none⟩ = some (.int .u64 xs[k].set.w2.toNat) ∧ w.cell? ⟨b, o + k * 7 + 6, none⟩ = some (.int .u64 xs[k].set.w3.toNat) := by
  have h := hc k xs[k] (List.getElem?_eq_getElem hk)
  exact ⟨by simpa using h 0 _ rfl, h 1 _ rfl, h 2 _ rfl, h 3 _ rfl, h 4 _ rfl, h 5 _ rfl, h 6 _ rfl⟩
end Go.Proofs.YtakldmbbmefnbaaGreat
/- A range over a function, in a form that fits iterators over memory: the caller's law and the iterator's contract. -/
namespace Go.Proofs.YtakldmbbmefnbaaGreat
open Go.RowKit

/-- The objects that the machine keeps of a loop over a function. -/
def isCtl : Obj → Bool
  | .loop _ => true
  | .deferred _ => true
  | _ => false

/-- Every object lies as it lay, but for those of loops from block B on. -/
structure Near (B : Nat) (w w' : World) : Prop where
  os : w'.os = w.os
  tape : w'.tape = w.tape
  output : w'.output = w.output
  size : w.heap.size ≤ w'.heap.size
  block : ∀ (k : Nat) (o : Obj), w.heap[k]? = some o → (k < B ∨ isCtl o = false) → w'.heap[k]? = some o

/-- The objects of loops lie as they lay. -/
structure KeepC (w w' : World) : Prop where
  size : w.heap.size ≤ w'.heap.size
  block : ∀ (k : Nat) (o : Obj), w.heap[k]? = some o → isCtl o = true → w'.heap[k]? = some o

section
variable {B : Nat} {a w w' w'' : World}
theorem Near.refl (B : Nat) (w : World) : Near B w w := ⟨rfl, rfl, rfl, Nat.le_refl _, fun _ _ h _ => h⟩
theorem Near.of_below (h : Below w.heap.size w w') : Near B w w' := ⟨h.os, h.tape, h.output, h.size, fun k _ hk _ => (h.block k (Array.getElem?_eq_some_iff.1 hk).1).trans hk⟩
theorem Near.cell {p : Addr} {v : Value} (h : Near B w w') (hc : w.cell? p = some v) : w'.cell? p = some v := by
  have hb := World.block_lt_of_cell? w p hc
  have ho : w.heap[p.block]? = some w.heap[p.block] := Array.getElem?_eq_getElem hb
  have hctl : isCtl w.heap[p.block] = false := by
    unfold World.cell? at hc
    rw [ho] at hc
    revert hc
    cases w.heap[p.block] <;> simp [isCtl]
  have := h.block _ _ ho (.inr hctl)
  rw [← hc]
  exact World.cell?_of_block (this.trans ho.symm)
theorem Near.cells {k : Nat} {c : Array Value} {t : TypeId} {z : Nat × Nat} (h : Near B w w') (hc : w.heap[k]? = some (.cells c t z)) : w'.heap[k]? = some (.cells c t z) := h.block _ _ hc (.inr rfl)
theorem Near.map {k : Nat} {es : Array MapEntry} {z : Nat} (h : Near B w w') (hc : w.heap[k]? = some (.map es z)) : w'.heap[k]? = some (.map es z) := h.block _ _ hc (.inr rfl)
theorem Near.below {n : Nat} (h : Near B w w') (ha : Below n a w) (hn : n ≤ B) (hw : n ≤ a.heap.size) : Below n a w' :=
  ⟨h.os.trans ha.os, h.tape.trans ha.tape, h.output.trans ha.output, Nat.le_trans ha.size h.size, fun k hk => by
    have hlt : k < a.heap.size := by omega
    have ho : w.heap[k]? = some a.heap[k] := (ha.block k hk).trans (Array.getElem?_eq_getElem hlt)
    rw [h.block k _ ho (.inl (by omega)), Array.getElem?_eq_getElem hlt]⟩
theorem Near.own {α : Type} {enc : α → List Value} {size : Nat} {e : TypeId} {base : Nat} {v : Value} {xs : List α} (h : Near B w w') (ho : Own enc size e w base v xs) : Own enc size e w' base v xs := by
  rcases ho with ho | ⟨b, cap, cur, rfl, hb, hp, h1, h2, hh, rest⟩
  · exact .inl ho
  · exact .inr ⟨b, cap, cur, rfl, hb, hp, h1, h2, h.cells hh, rest⟩

theorem KeepC.refl (w : World) : KeepC w w := ⟨Nat.le_refl _, fun _ _ h _ => h⟩
theorem KeepC.trans (h : KeepC w w') (k : KeepC w' w'') : KeepC w w'' := ⟨Nat.le_trans h.size k.size, fun i o hi ho => k.block i o (h.block i o hi ho) ho⟩
theorem KeepC.of_below (h : Below w.heap.size w w') : KeepC w w' := ⟨h.size, fun k _ hk _ => (h.block k (Array.getElem?_eq_some_iff.1 hk).1).trans hk⟩
theorem KeepC.drew (h : KeepC a w) : KeepC a w.drew := ⟨h.size, h.block⟩
theorem KeepC.drewN (h : KeepC a w) (n : Nat) : KeepC a (w.drewN n) := ⟨h.size, h.block⟩
theorem KeepC.alloc (h : KeepC a w) (o : Obj) : KeepC a (w.alloc o) := h.trans (KeepC.of_below (alloc1 w o))
theorem KeepC.below (h : KeepC a w) (hb : Below w.heap.size w w') : KeepC a w' := h.trans (KeepC.of_below hb)
theorem KeepC.setCell (h : KeepC a w) (p : Addr) (u : Value) : KeepC a (w.setCell p u) :=
  h.trans ⟨by show w.heap.size ≤ (w.heap.modify _ _).size; rw [Array.size_modify]; exact Nat.le_refl _, fun k o hk ho => by
    by_cases e : k = p.block
    · subst e
      obtain ⟨hlt, hk'⟩ := Array.getElem?_eq_some_iff.1 hk
      show (w.heap.modify p.block _)[p.block]? = some o
      rw [Array.getElem?_eq_getElem (by rw [Array.size_modify]; exact hlt), Array.getElem_modify_self, hk']
      cases o <;> first | rfl | (simp [isCtl] at ho)
    · exact (Below.heap_setCell w p u k e).trans hk⟩
theorem KeepC.grown {row : Option Nat} (h : KeepC a w) (hg : w.grownBy w' row) (hr : ∀ k, row = some k → ∃ o, w.heap[k]? = some o ∧ isCtl o = false) : KeepC a w' :=
  h.trans ⟨hg.size, fun k o hk ho => by
    refine (hg.block k (Array.getElem?_eq_some_iff.1 hk).1 (fun e => ?_)).trans hk
    obtain ⟨o', h1, h2⟩ := hr k e.symm
    rw [hk] at h1; cases h1; rw [ho] at h2; cases h2⟩
end

/-- What an own row's block is. -/
theorem Own.ctl {α : Type} {enc : α → List Value} {size : Nat} {e : TypeId} {w : World} {base : Nat} {v : Value} {xs : List α} (h : Own enc size e w base v xs) : ∀ k, blk v = some k → ∃ o, w.heap[k]? = some o ∧ isCtl o = false := by
  intro k hk
  rcases h with ⟨rfl, A, rfl⟩ | ⟨b, cap, cur, rfl, hb, hp, _, _, hg, _⟩
  · cases A <;> simp [blk] at hk
  · obtain ⟨m, rfl⟩ : ∃ m, cap = m + 1 := ⟨cap - 1, by omega⟩
    simp [blk] at hk
    subst hk
    exact ⟨_, hg, rfl⟩

/-- The iterator value '.func (.func g) #[] lb' tells the rows xs of values, one behind the other, wherever D holds. -/
def IterAt (P : Program) (g : Nat) (lb : Array Value) (xs : List (Array Value)) (D : World → Prop) : Prop :=
  ∀ (l : Nat) (I : Nat → World → Prop) (J : World → Prop) (w : World),
    (∀ k W W', I k W → Below W.heap.size W W' → I k W') → (∀ W W', J W → Below W.heap.size W W' → J W') → (∀ k W, I k W → D W) →
    (∀ k (hk : k < xs.length) W, I k W → YieldAt Fence.wide 0 P l xs[k] W fun e W' => (e = .returned (.bool true) ∧ I (k + 1) W') ∨ (e = .returned (.bool false) ∧ J W')) →
    I 0 w → Calls P g (#[.func (.yield l) #[] #[]] ++ lb) w fun e W' => (∃ v, e = .returned v) ∧ (I xs.length W' ∨ J W')

/-- How the body of a round may be left. -/
def roundEnd (I : Nat → World → Prop) (J : Code → World → Prop) (k : Nat) (W : World) : Exit → Act → World → Prop
  | .normal, _, W' => KeepC W W' ∧ I (k + 1) W'
  | .ret, _, W' => KeepC W W' ∧ J .ret W'
  | .exit id, _, W' => KeepC W W' ∧ J (.exit id) W'
  | .goto t, _, W' => KeepC W W' ∧ J (.goto t) W'
  | .panic _, _, _ => False
  | .outgrown, _, _ => False

variable {P : Program}
/-- **The statement 'for .. := range g { .. }'**, g an iterator that tells xs. -/
theorem wp_rangeFunc_iter {n : Nat} {g : Operand} {ps : Array Tmp} {assign body : Code} {Q : Exit → Act → World → Prop} {a : Act} {w : World} {gf : Nat} {lb : Array Value}
    (hg : a.eval g = .func (.func gf) #[] lb) (eg : ∀ args w, (callFunc gf args).run P w = .ok (.enter gf args) w) {xs : List (Array Value)} {D : World → Prop} (hseq : IterAt P gf lb xs D) (hps : ∀ x ∈ xs, x.size = ps.size)
    (I : Nat → World → Prop) (J : Code → World → Prop) (hI : ∀ k W W', I k W → Near w.heap.size W W' → I k W') (hJ : ∀ c W W', J c W → Near w.heap.size W W' → J c W') (hD : ∀ k W, I k W → D W) (h0 : I 0 w)
    (hround : ∀ (l k : Nat) (hk : k < xs.length) (W : World), I k W →
      assign.wpIn (Fence.wide.inRound l) 0 P (Exit.then (fun a1 W1 => KeepC W W1 ∧ ∀ W2, Near w.heap.size W1 W2 → body.wpIn (Fence.wide.inRound l) 0 P (roundEnd I J k W2) a1 W2) (fun _ _ _ => False))
        { tmps := (ps.zip xs[k]).foldl (fun t (p, v) => t.setIfInBounds p v) a.tmps, defers := [] } W)
    (hdone : ∀ (Dk : Nat) (W : World), w.heap.size ≤ Dk → I xs.length W → W.heap[Dk]? = some (.deferred (some [])) → Q .normal { a with defers := { target := .collected Dk, args := #[] } :: a.defers } W)
    (hstop : ∀ (Dk : Nat) (c : Code) (W : World), w.heap.size ≤ Dk → J c W → W.heap[Dk]? = some (.deferred (some [])) → c.wpIn Fence.wide n P Q { a with defers := { target := .collected Dk, args := #[] } :: a.defers } W) :
    (Code.rangeFunc g ps assign body).wpIn Fence.wide n P Q a w := by
  refine wpIn_rangeFunc ?_
  intro fn hfn
  show ∃ (l : Nat) (mark : List Deferred) (w₁ : World) (d : Deferred) (w₁' : World) (f : FuncId) (args : Array Value) (w₂ : World), (Instr.enterLoop fn a.tmps ps assign body none).run P w = .ok (l, mark) w₁ ∧ _
  obtain ⟨rec, hrec⟩ : ∃ rec : LoopState → Option Code → Loop, rec = fun st pe => { state := st, pending := pe, fn, tmps := a.tmps, params := ps, assign, body, defers := w.heap.size } := ⟨_, rfl⟩
  obtain ⟨W1, hW1⟩ : ∃ W1, (w.alloc (.deferred (some []))).alloc (.loop (rec .ready none)) = W1 := ⟨_, rfl⟩
  have hL1 : W1.heap[w.heap.size + 1]? = some (.loop (rec .ready none)) := by
    rw [← hW1]; have := World.alloc_heap_new (w.alloc (.deferred (some []))) (.loop (rec .ready none)); rwa [World.size_alloc] at this
  have hK1 : W1.heap[w.heap.size]? = some (.deferred (some [])) := by
    rw [← hW1]; exact (Below.heap_alloc _ _ _ (by simp)).trans (World.alloc_heap_new w _)
  have hB1 : Below w.heap.size w W1 := by rw [← hW1]; exact below_next (alloc1 w _) (alloc1 _ _)
  have putNear : ∀ (W : World) (o o' : Obj) (r : Nat), w.heap.size ≤ r → W.heap[r]? = some o → isCtl o = true → Near w.heap.size W (W.putObj r o') := by
    intro W o o' r hr ho hc
    refine ⟨rfl, rfl, rfl, by simp, fun k o1 hk h => ?_⟩
    have hne : k ≠ r := by
      rintro rfl
      rw [ho] at hk; cases hk
      rcases h with h | h
      · omega
      · rw [hc] at h; cases h
    rw [World.putObj_heap_other hne]; exact hk
  refine ⟨w.heap.size + 1, [{ target := .collected w.heap.size, args := #[] }], W1, { target := .fn (.func gf) lb, args := #[.func (.yield (w.heap.size + 1)) #[] #[]] }, W1, gf,
    #[.func (.yield (w.heap.size + 1)) #[] #[]] ++ lb, W1, ?_, ?_, ?_, ?_, fun h => by simp [Fence.wide] at h, ?_⟩
  · rw [← hW1, hrec]; exact run_enterLoop_outer _ _ _ _ _
  · simp only [resolve, hg]
    simp [go_sem]
  · intro f' hf'; trivial
  · simp [invoke, go_sem, eg]
  · refine callsIn_wide.2 ((hseq (w.heap.size + 1)
      (fun k W => I k W ∧ W.heap[w.heap.size + 1]? = some (.loop (rec .ready none)) ∧ W.heap[w.heap.size]? = some (.deferred (some [])))
      (fun W => ∃ c, J c W ∧ W.heap[w.heap.size + 1]? = some (.loop (rec .done (some c))) ∧ W.heap[w.heap.size]? = some (.deferred (some []))) W1 ?_ ?_ ?_ ?_ ⟨hI _ _ _ h0 (Near.of_below hB1), hL1, hK1⟩).mono ?_)
    · rintro k W W' ⟨hi, hl, hk⟩ hb
      exact ⟨hI _ _ _ hi (Near.of_below hb), (hb.block _ (Array.getElem?_eq_some_iff.1 hl).1).trans hl, (hb.block _ (Array.getElem?_eq_some_iff.1 hk).1).trans hk⟩
    · rintro W W' ⟨c, hi, hl, hk⟩ hb
      exact ⟨c, hJ _ _ _ hi (Near.of_below hb), (hb.block _ (Array.getElem?_eq_some_iff.1 hl).1).trans hl, (hb.block _ (Array.getElem?_eq_some_iff.1 hk).1).trans hk⟩
    · rintro k W ⟨hi, _⟩
      exact hD _ _ hi
    · rintro k hk W ⟨hi, hl, hd⟩
      have hy := run_yield (P := P) (args := xs[k]) hl (by rw [hrec]; exact hps _ (List.getElem_mem hk))
      rw [hrec] at hy
      refine ⟨fn, _, assign, body, hy, roundIn_of_wpIn hfn (wpIn_mono (hround (w.heap.size + 1) k hk W hi) ?_)⟩
      rintro e a1 W2 hp
      cases e with
      | normal =>
        obtain ⟨hk2, hbody⟩ := hp
        have hl2 := hk2.block _ _ hl rfl
        have hd2 := hk2.block _ _ hd rfl
        refine ⟨_, run_beginRound hl2 (by rw [hrec]), ?_⟩
        have hlt := (Array.getElem?_eq_some_iff.1 hl2).1
        have hl3 : (W2.putObj (w.heap.size + 1) (.loop { rec .ready none with state := .busy })).heap[w.heap.size + 1]? = some (.loop { rec .ready none with state := .busy }) := World.putObj_heap_same hlt
        have hd3 : (W2.putObj (w.heap.size + 1) (.loop { rec .ready none with state := .busy })).heap[w.heap.size]? = some (.deferred (some [])) := (World.putObj_heap_other (by omega)).trans hd2
        refine wpIn_mono (hbody _ (putNear _ _ _ _ (by omega) hl2 rfl)) ?_
        have fin : ∀ (jump : Option Code) (W3 : World), KeepC (W2.putObj (w.heap.size + 1) (.loop { rec .ready none with state := .busy })) W3 →
            (Instr.endRound (w.heap.size + 1) jump).run P W3 = .ok (.bool jump.isNone) (W3.putObj (w.heap.size + 1) (.loop (rec (if jump.isNone then .ready else .done) jump))) ∧
            Near w.heap.size W3 (W3.putObj (w.heap.size + 1) (.loop (rec (if jump.isNone then .ready else .done) jump))) ∧
            (W3.putObj (w.heap.size + 1) (.loop (rec (if jump.isNone then .ready else .done) jump))).heap[w.heap.size + 1]? = some (.loop (rec (if jump.isNone then .ready else .done) jump)) ∧
            (W3.putObj (w.heap.size + 1) (.loop (rec (if jump.isNone then .ready else .done) jump))).heap[w.heap.size]? = some (.deferred (some [])) := fun jump W3 hk3 => by
          have hl4 := hk3.block _ _ hl3 rfl
          have := run_endRound (P := P) jump hl4
          rw [hrec] at this ⊢
          exact ⟨this, putNear _ _ _ _ (by omega) hl4 rfl, World.putObj_heap_same (Array.getElem?_eq_some_iff.1 hl4).1, (World.putObj_heap_other (by omega)).trans (hk3.block _ _ hd3 rfl)⟩
        rintro e a3 W3 hp
        cases e with
        | normal =>
          obtain ⟨hk3, hi3⟩ := hp
          obtain ⟨hr, hn4, hl4, hd4⟩ := fin none W3 hk3
          exact ⟨_, _, hr, .inl ⟨rfl, hI _ _ _ hi3 hn4, hl4, hd4⟩⟩
        | ret =>
          obtain ⟨hk3, hi3⟩ := hp
          obtain ⟨hr, hn4, hl4, hd4⟩ := fin (some .ret) W3 hk3
          exact ⟨_, _, hr, .inr ⟨rfl, .ret, hJ _ _ _ hi3 hn4, hl4, hd4⟩⟩
        | exit id =>
          obtain ⟨hk3, hi3⟩ := hp
          obtain ⟨hr, hn4, hl4, hd4⟩ := fin (some (.exit id)) W3 hk3
          exact ⟨_, _, hr, .inr ⟨rfl, .exit id, hJ _ _ _ hi3 hn4, hl4, hd4⟩⟩
        | goto t =>
          obtain ⟨hk3, hi3⟩ := hp
          obtain ⟨hr, hn4, hl4, hd4⟩ := fin (some (.goto t)) W3 hk3
          exact ⟨_, _, hr, .inr ⟨rfl, .goto t, hJ _ _ _ hi3 hn4, hl4, hd4⟩⟩
        | panic ch => exact hp.elim
        | outgrown => exact hp.elim
      | ret => exact (hp : False).elim
      | exit id => exact (hp : False).elim
      | goto t => exact (hp : False).elim
      | panic ch => exact (hp : False).elim
      | outgrown => exact (hp : False).elim
    · rintro e W2 ⟨⟨v, rfl⟩, (⟨hi, hl, hk⟩ | ⟨c, hi, hl, hk⟩)⟩
      · exact ⟨none, _, by have := run_endLoop (P := P) hl (by rw [hrec]; simp); rw [hrec] at this; exact this,
          hdone _ _ (Nat.le_refl _) (hI _ _ _ hi (putNear _ _ _ _ (by omega) hl rfl)) ((World.putObj_heap_other (by omega)).trans hk)⟩
      · exact ⟨some c, _, by have := run_endLoop (P := P) hl (by rw [hrec]; simp); rw [hrec] at this; exact this,
          hstop _ c _ (Nat.le_refl _) (hJ _ _ _ hi (putNear _ _ _ _ (by omega) hl rfl)) ((World.putObj_heap_other (by omega)).trans hk)⟩
end Go.Proofs.YtakldmbbmefnbaaGreat
/- slices.IndexFunc and ContainsFunc. -/
namespace Go.Proofs.YtakldmbbmefnbaaGreat
open Go.RowKit


set_option maxHeartbeats 1000000 in
theorem indexFunc_int (v fv : Value) (xs : List Int) (D : Int → Prop) (p : Int → Bool) (w : World) (h : Sl encI 1 w w.heap.size v xs) (hp : Pred1 Tryz.prog (fun x => .int .i64 x) fv D p w) (hD : ∀ x ∈ xs, D x) (hn : xs.length ≤ 1000000) :
    Calls Tryz.prog 120 #[v, fv] w (fun r w' => r = .returned (.int .i64 (idxOf p xs)) ∧ Below w.heap.size w w') := by
  obtain ⟨A, c, rfl, hr⟩ := id h
  obtain ⟨g, lb, rfl, hen, hpc⟩ := id hp
  go_enter Tryz.func120, Tryz.ntmps120
  go_wp2
  go_loopw [8] (fun i wr => ∃ k : Nat, k ≤ xs.length ∧ i = .int .i64 k ∧ Below w.heap.size w wr ∧ ∀ j (hj : j < k) (hj' : j < xs.length), p xs[j] = false) (fun i _ => xs.length - (intOf i).toNat)
  case atStart => exact ⟨0, Nat.zero_le _, rfl, Below.refl _ _, fun j hj => absurd hj (by omega)⟩
  case round =>
    obtain ⟨k, hk, rfl, hB, hall⟩ := hrel
    by_cases hlt : k < xs.length
    · obtain ⟨b, o, rfl, hb, hc⟩ := hr (by omega)
      have hcell := (hB.cell (p := ⟨b, o + k, none⟩) hb).trans (cell1 encI_eq hc hlt)
      have hcall := hpc wr xs[k] (hD _ (List.getElem_mem hlt)) hB
      clear hr hc hpc hp h
      have HA := Lib.hid hall
      clear hall
      go_wp2
      refine hcall.mono ?_
      rintro e w1 ⟨rfl, hb1⟩
      cases hpx : p xs[k] with
      | true =>
        go_wp2
        go_ret
        have hi := idxOf_at hlt (fun j hj => HA.out j hj (by omega)) hpx
        exact ⟨by simp [hi], below_next hB hb1⟩
      | false =>
        have HP := Lib.hid hpx
        go_wp2
        go_roundw
        case rel =>
          refine ⟨k + 1, by omega, by go_num, below_next hB hb1, fun j hj hj' => ?_⟩
          rcases Nat.lt_succ_iff_lt_or_eq.1 hj with h | rfl
          · exact HA.out j h hj'
          · exact HP.out
        case measure => simp [intOf]; omega
    · clear hr hp h
      have HA := Lib.hid hall
      clear hall
      go_wp2
      go_ret
      have hi := idxOf_none (p := p) (xs := xs) (fun j hj => HA.out j (by omega) hj)
      exact ⟨by simp [hi], hB⟩

theorem containsFunc_int (v fv : Value) (xs : List Int) (D : Int → Prop) (p : Int → Bool) (w : World) (h : Sl encI 1 w w.heap.size v xs) (hp : Pred1 Tryz.prog (fun x => .int .i64 x) fv D p w) (hD : ∀ x ∈ xs, D x) (hn : xs.length ≤ 1000000) :
    Calls Tryz.prog 55 #[v, fv] w (fun r w' => r = .returned (.bool (xs.any p)) ∧ Below w.heap.size w w') := by
  rw [← idxOf_any]
  go_enter Tryz.func55, Tryz.ntmps55
  go_wp2_with (go_at_call 120; refine (indexFunc_int _ _ xs D p _ h hp hD hn).mono ?_; rintro e w1 ⟨rfl, hb1⟩)
  all_goals (go_ret; exact ⟨rfl, hb1⟩)

set_option maxHeartbeats 1000000 in
theorem indexFunc_edge (v fv : Value) (xs : List E) (D : E → Prop) (p : E → Bool) (w : World) (h : Sl encE 7 w w.heap.size v xs) (hp : Pred1 Tryz.prog (fun x => vE x) fv D p w) (hD : ∀ x ∈ xs, D x) (hn : xs.length ≤ 1000000) :
    Calls Tryz.prog 165 #[v, fv] w (fun r w' => r = .returned (.int .i64 (idxOf p xs)) ∧ Below w.heap.size w w') := by
  obtain ⟨A, c, rfl, hr⟩ := id h
  obtain ⟨g, lb, rfl, hen, hpc⟩ := id hp
  go_enter Tryz.func165, Tryz.ntmps165
  go_wp2
  go_loopw [8] (fun i wr => ∃ k : Nat, k ≤ xs.length ∧ i = .int .i64 k ∧ Below w.heap.size w wr ∧ ∀ j (hj : j < k) (hj' : j < xs.length), p xs[j] = false) (fun i _ => xs.length - (intOf i).toNat)
  case atStart => exact ⟨0, Nat.zero_le _, rfl, Below.refl _ _, fun j hj => absurd hj (by omega)⟩
  case round =>
    obtain ⟨k, hk, rfl, hB, hall⟩ := hrel
    by_cases hlt : k < xs.length
    · obtain ⟨b, o, rfl, hb, hc⟩ := hr (by omega)
      obtain ⟨hcell0, hcell1, hcell2, hcell3, hcell4, hcell5, hcell6⟩ := cell7 hc hlt
      replace hcell0 := (hB.cell (p := ⟨b, o + k * 7, none⟩) hb).trans hcell0
      replace hcell1 := (hB.cell (p := ⟨b, o + k * 7 + 1, none⟩) hb).trans hcell1
      replace hcell2 := (hB.cell (p := ⟨b, o + k * 7 + 2, none⟩) hb).trans hcell2
      replace hcell3 := (hB.cell (p := ⟨b, o + k * 7 + 3, none⟩) hb).trans hcell3
      replace hcell4 := (hB.cell (p := ⟨b, o + k * 7 + 4, none⟩) hb).trans hcell4
      replace hcell5 := (hB.cell (p := ⟨b, o + k * 7 + 5, none⟩) hb).trans hcell5
      replace hcell6 := (hB.cell (p := ⟨b, o + k * 7 + 6, none⟩) hb).trans hcell6
      have hcall := hpc wr xs[k] (hD _ (List.getElem_mem hlt)) hB
      clear hr hc hpc hp h
      have HA := Lib.hid hall
      clear hall
      go_wp2
      refine hcall.mono ?_
      rintro e w1 ⟨rfl, hb1⟩
      cases hpx : p xs[k] with
      | true =>
        go_wp2
        go_ret
        have hi := idxOf_at hlt (fun j hj => HA.out j hj (by omega)) hpx
        exact ⟨by simp [hi], below_next hB hb1⟩
      | false =>
        have HP := Lib.hid hpx
        go_wp2
        go_roundw
        case rel =>
          refine ⟨k + 1, by omega, by go_num, below_next hB hb1, fun j hj hj' => ?_⟩
          rcases Nat.lt_succ_iff_lt_or_eq.1 hj with h | rfl
          · exact HA.out j h hj'
          · exact HP.out
        case measure => simp [intOf]; omega
    · clear hr hp h
      have HA := Lib.hid hall
      clear hall
      go_wp2
      go_ret
      have hi := idxOf_none (p := p) (xs := xs) (fun j hj => HA.out j (by omega) hj)
      exact ⟨by simp [hi], hB⟩

theorem containsFunc_edge (v fv : Value) (xs : List E) (D : E → Prop) (p : E → Bool) (w : World) (h : Sl encE 7 w w.heap.size v xs) (hp : Pred1 Tryz.prog (fun x => vE x) fv D p w) (hD : ∀ x ∈ xs, D x) (hn : xs.length ≤ 1000000) :
    Calls Tryz.prog 145 #[v, fv] w (fun r w' => r = .returned (.bool (xs.any p)) ∧ Below w.heap.size w w') := by
  rw [← idxOf_any]
  go_enter Tryz.func145, Tryz.ntmps145
  go_wp2_with (go_at_call 165; refine (indexFunc_edge _ _ xs D p _ h hp hD hn).mono ?_; rintro e w1 ⟨rfl, hb1⟩)
  all_goals (go_ret; exact ⟨rfl, hb1⟩)
end Go.Proofs.YtakldmbbmefnbaaGreat
/- fa.all: whether something holds of each. -/
namespace Go.Proofs.YtakldmbbmefnbaaGreat
open Go.RowKit


theorem all_int_not (fv : Value) (D : Int → Prop) (p : Int → Bool) (w : World) (hp : Pred1 Tryz.prog (fun x => .int .i64 x) fv D p w) (b : Nat) (hb : b < w.heap.size) (hc : w.cell? ⟨b, 0, none⟩ = some fv) :
    Pred1 Tryz.prog (fun x => .int .i64 x) (.func (.func 144) #[] #[.pointer (some ⟨b, 0, none⟩)]) D (fun x => !p x) w := by
  refine ⟨_, _, rfl, Tryz.call144, fun W x hd hW => ?_⟩
  have hc' := (hW.cell (p := ⟨b, 0, none⟩) hb).trans hc
  have hb' := Nat.lt_of_lt_of_le hb hW.size
  obtain ⟨k, lb, rfl, hen, hpc⟩ := id hp
  go_enter Tryz.func144, Tryz.ntmps144
  cases hx : p x with
  | true =>
    have hcall := fun W' (h : Below w.heap.size w W') => hpc W' x hd h
    rw [hx] at hcall
    go_wp2_with (refine (hcall _ (hW)).mono ?_; rintro e w1 ⟨rfl, hb1⟩)
    go_ret
    exact ⟨rfl, hb1⟩
  | false =>
    have hcall := fun W' (h : Below w.heap.size w W') => hpc W' x hd h
    rw [hx] at hcall
    go_wp2_with (refine (hcall _ (hW)).mono ?_; rintro e w1 ⟨rfl, hb1⟩)
    go_ret
    exact ⟨rfl, hb1⟩

theorem all_int (v fv : Value) (xs : List Int) (D : Int → Prop) (p : Int → Bool) (w : World) (h : Sl encI 1 w w.heap.size v xs) (hp : Pred1 Tryz.prog (fun x => .int .i64 x) fv D p w) (hD : ∀ x ∈ xs, D x) (hn : xs.length ≤ 1000000) :
    Calls Tryz.prog 96 #[v, fv] w (fun r w' => r = .returned (.bool (xs.all p)) ∧ Below w.heap.size w w') := by
  obtain ⟨k, lb, rfl, hen, hpc⟩ := id hp
  have hw1 : Below w.heap.size w (w.alloc (.cells #[.func (.func k) #[] lb] 83)) := (Below.refl _ _).alloc (Nat.le_refl _) _
  have hq := all_int_not _ D p _ (hp.below hw1) w.heap.size (by simp) (cell_new _ _ _ _)
  go_enter Tryz.func96, Tryz.ntmps96
  go_wp2_with (go_at_call 55; refine (containsFunc_int _ _ xs D _ _ (h.below hw1 (by simp)) hq hD hn).mono ?_; rintro e w1 ⟨rfl, hb1⟩)
  all_goals (go_ret; exact ⟨congrArg (fun z => Ending.returned (.bool z)) (by simp [any_not]), below_next hw1 hb1⟩)

theorem all_edge_not (fv : Value) (D : E → Prop) (p : E → Bool) (w : World) (hp : Pred1 Tryz.prog (fun x => vE x) fv D p w) (b : Nat) (hb : b < w.heap.size) (hc : w.cell? ⟨b, 0, none⟩ = some fv) :
    Pred1 Tryz.prog (fun x => vE x) (.func (.func 146) #[] #[.pointer (some ⟨b, 0, none⟩)]) D (fun x => !p x) w := by
  refine ⟨_, _, rfl, Tryz.call146, fun W x hd hW => ?_⟩
  have hc' := (hW.cell (p := ⟨b, 0, none⟩) hb).trans hc
  have hb' := Nat.lt_of_lt_of_le hb hW.size
  obtain ⟨k, lb, rfl, hen, hpc⟩ := id hp
  unfold vE
  go_enter Tryz.func146, Tryz.ntmps146
  cases hx : p x with
  | true =>
    have hcall := fun W' (h : Below w.heap.size w W') => hpc W' x hd h
    rw [hx] at hcall
    go_wp2_with (refine (hcall _ (hW.alloc hW.size _)).mono ?_; rintro e w1 ⟨rfl, hb1⟩)
    go_ret
    exact ⟨rfl, below_next ((Below.refl _ _).alloc (Nat.le_refl _) _) hb1⟩
  | false =>
    have hcall := fun W' (h : Below w.heap.size w W') => hpc W' x hd h
    rw [hx] at hcall
    go_wp2_with (refine (hcall _ (hW.alloc hW.size _)).mono ?_; rintro e w1 ⟨rfl, hb1⟩)
    go_ret
    exact ⟨rfl, below_next ((Below.refl _ _).alloc (Nat.le_refl _) _) hb1⟩

theorem all_edge (v fv : Value) (xs : List E) (D : E → Prop) (p : E → Bool) (w : World) (h : Sl encE 7 w w.heap.size v xs) (hp : Pred1 Tryz.prog (fun x => vE x) fv D p w) (hD : ∀ x ∈ xs, D x) (hn : xs.length ≤ 1000000) :
    Calls Tryz.prog 97 #[v, fv] w (fun r w' => r = .returned (.bool (xs.all p)) ∧ Below w.heap.size w w') := by
  obtain ⟨k, lb, rfl, hen, hpc⟩ := id hp
  have hw1 : Below w.heap.size w (w.alloc (.cells #[.func (.func k) #[] lb] 95)) := (Below.refl _ _).alloc (Nat.le_refl _) _
  have hq := all_edge_not _ D p _ (hp.below hw1) w.heap.size (by simp) (cell_new _ _ _ _)
  go_enter Tryz.func97, Tryz.ntmps97
  go_wp2_with (go_at_call 145; refine (containsFunc_edge _ _ xs D _ _ (h.below hw1 (by simp)) hq hD hn).mono ?_; rintro e w1 ⟨rfl, hb1⟩)
  all_goals (go_ret; exact ⟨congrArg (fun z => Ending.returned (.bool z)) (by simp [any_not]), below_next hw1 hb1⟩)
end Go.Proofs.YtakldmbbmefnbaaGreat
/- How many bits a word has: the plain law of math/bits.OnesCount64. -/
namespace Go.Proofs.YtakldmbbmefnbaaGreat

/-- The sum of the lowest k digits to the base b. -/
def dsum (b : Nat) : Nat → Nat → Nat
  | 0, _ => 0
  | k + 1, x => x % b + dsum b k (x / b)

/-- How many of the lowest 64 bits are set. -/
def popc (x : BitVec 64) : Nat := dsum 2 64 x.toNat

def BSet.count (s : BSet) : Nat := popc s.w0 + popc s.w1 + popc s.w2 + popc s.w3

theorem dsum_zero (b : Nat) : ∀ k, dsum b k 0 = 0
  | 0 => rfl
  | k + 1 => by simp [dsum, dsum_zero b k]

theorem dsum_eq_zero {b : Nat} (hb : 0 < b) : ∀ k x, x < b ^ k → dsum b k x = 0 → x = 0
  | 0, x, h, _ => by simp at h; exact h
  | k + 1, x, h, h0 => by
    simp only [dsum] at h0
    have h1 : x / b < b ^ k := by rw [Nat.div_lt_iff_lt_mul hb]; rw [Nat.pow_succ] at h; exact h
    have h2 := dsum_eq_zero hb k (x / b) h1 (by omega)
    have h3 : x % b = 0 := by omega
    have := Nat.div_add_mod x b
    rw [h2, h3] at this
    simpa using this.symm

theorem popc_zero (x : BitVec 64) : popc x = 0 ↔ x = 0#64 := by
  constructor
  · intro h
    have := dsum_eq_zero (by decide) 64 x.toNat x.isLt h
    exact BitVec.eq_of_toNat_eq (by simpa using this)
  · rintro rfl
    exact dsum_zero 2 64

theorem count_zero (s : BSet) : s.count = 0 ↔ s = ⟨0#64, 0#64, 0#64, 0#64⟩ := by
  unfold BSet.count
  obtain ⟨a, b, c, d⟩ := s
  simp only [BSet.mk.injEq]
  rw [← popc_zero a, ← popc_zero b, ← popc_zero c, ← popc_zero d]
  omega

theorem dsum_le {b : Nat} (hb : 0 < b) : ∀ k x, dsum b k x ≤ k * (b - 1)
  | 0, _ => by simp [dsum]
  | k + 1, x => by
    have := dsum_le hb k (x / b)
    have h2 := Nat.mod_lt x hb
    simp only [dsum, Nat.succ_mul]
    omega

theorem popc_le (x : BitVec 64) : popc x ≤ 64 := by have := dsum_le (b := 2) (by decide) 64 x.toNat; simpa [popc] using this

/-- The mask of k fields of n bits, each with its lowest s bits set. -/
def mask (n s : Nat) : Nat → Nat
  | 0 => 0
  | k + 1 => mask n s k * 2 ^ n + (2 ^ s - 1)

theorem land_fields (n q r m t : Nat) (hr : r < 2 ^ n) (ht : t < 2 ^ n) : (q * 2 ^ n + r) &&& (m * 2 ^ n + t) = (q &&& m) * 2 ^ n + (r &&& t) := by
  have hrt : r &&& t < 2 ^ n := Nat.lt_of_le_of_lt Nat.and_le_left hr
  apply Nat.eq_of_testBit_eq
  intro i
  rw [Nat.mul_comm q, Nat.mul_comm m, Nat.mul_comm (q &&& m)]
  rw [Nat.testBit_and, Nat.testBit_two_pow_mul_add q hr, Nat.testBit_two_pow_mul_add m ht, Nat.testBit_two_pow_mul_add (q &&& m) hrt]
  split <;> simp [Nat.testBit_and]

/-- One step: the two halves of each field, added. -/
def fold2 (s k x : Nat) : Nat := (x / 2 ^ s &&& mask (2 * s) s k) + (x &&& mask (2 * s) s k)

theorem pow_two_mul (s : Nat) : 2 ^ (2 * s) = 2 ^ s * 2 ^ s := by rw [Nat.two_mul, Nat.pow_add]

theorem fold2_succ (s k x : Nat) (hs : 0 < s) : fold2 s (k + 1) x = fold2 s k (x / 2 ^ (2 * s)) * 2 ^ (2 * s) + (x % 2 ^ (2 * s) / 2 ^ s + x % 2 ^ s) := by
  have hp : 0 < 2 ^ s := Nat.two_pow_pos s
  have hB : 2 ^ (2 * s) = 2 ^ s * 2 ^ s := pow_two_mul s
  have hle : 2 ^ s ≤ 2 ^ (2 * s) := Nat.pow_le_pow_right (by decide) (by omega)
  have ht : 2 ^ s - 1 < 2 ^ (2 * s) := by omega
  have h1 : x / 2 ^ s = x / 2 ^ s / 2 ^ (2 * s) * 2 ^ (2 * s) + x / 2 ^ s % 2 ^ (2 * s) := by rw [Nat.mul_comm]; exact (Nat.div_add_mod _ _).symm
  have h2 : x = x / 2 ^ (2 * s) * 2 ^ (2 * s) + x % 2 ^ (2 * s) := by rw [Nat.mul_comm]; exact (Nat.div_add_mod _ _).symm
  have e1 : x / 2 ^ s / 2 ^ (2 * s) = x / 2 ^ (2 * s) / 2 ^ s := by rw [Nat.div_div_eq_div_mul, Nat.div_div_eq_div_mul, Nat.mul_comm]
  have a1 : x / 2 ^ s &&& mask (2 * s) s (k + 1) = (x / 2 ^ (2 * s) / 2 ^ s &&& mask (2 * s) s k) * 2 ^ (2 * s) + x % 2 ^ (2 * s) / 2 ^ s := by
    rw [← e1]
    conv => lhs; rw [h1]
    simp only [mask]
    rw [land_fields _ _ _ _ _ (Nat.mod_lt _ (Nat.two_pow_pos _)) ht, Nat.and_two_pow_sub_one_eq_mod]
    congr 1
    rw [hB, Nat.mod_mul_left_mod, Nat.mod_mul_right_div_self]
  have a2 : x &&& mask (2 * s) s (k + 1) = (x / 2 ^ (2 * s) &&& mask (2 * s) s k) * 2 ^ (2 * s) + x % 2 ^ s := by
    conv => lhs; rw [h2]
    simp only [mask]
    rw [land_fields _ _ _ _ _ (Nat.mod_lt _ (Nat.two_pow_pos _)) ht, Nat.and_two_pow_sub_one_eq_mod]
    congr 1
    rw [hB, Nat.mod_mul_left_mod]
  unfold fold2
  rw [a1, a2, Nat.add_mul]
  omega

theorem dsum_fold2 (s : Nat) (hs : 0 < s) : ∀ k x, dsum (2 ^ (2 * s)) k (fold2 s k x) = dsum (2 ^ s) (2 * k) x
  | 0, x => rfl
  | k + 1, x => by
    have hB : 2 ^ (2 * s) = 2 ^ s * 2 ^ s := pow_two_mul s
    have hp : 2 ≤ 2 ^ s := by
      calc 2 = 2 ^ 1 := rfl
        _ ≤ 2 ^ s := Nat.pow_le_pow_right (by decide) hs
    have hq : x % 2 ^ (2 * s) / 2 ^ s < 2 ^ s := by
      rw [Nat.div_lt_iff_lt_mul (by omega), ← hB]; exact Nat.mod_lt _ (Nat.two_pow_pos _)
    have hr : x % 2 ^ s < 2 ^ s := Nat.mod_lt _ (by omega)
    have hsum : x % 2 ^ (2 * s) / 2 ^ s + x % 2 ^ s < 2 ^ (2 * s) := by
      have h2 : 2 * 2 ^ s ≤ 2 ^ (2 * s) := by rw [hB]; exact Nat.mul_le_mul_right _ hp
      omega
    rw [fold2_succ s k x hs]
    show _ = dsum (2 ^ s) (2 * k + 2) x
    simp only [dsum]
    rw [Nat.mul_comm (fold2 _ _ _), Nat.mul_add_mod, Nat.mod_eq_of_lt hsum, Nat.mul_add_div (Nat.two_pow_pos _), Nat.div_eq_of_lt hsum, Nat.add_zero, dsum_fold2 s hs k, hB, Nat.mod_mul_right_div_self, Nat.div_div_eq_div_mul]
    omega

/-- Each of the lowest k digits to the base b is at most m. -/
def dmax (b m : Nat) : Nat → Nat → Prop
  | 0, _ => True
  | k + 1, x => x % b ≤ m ∧ dmax b m k (x / b)

theorem dmax_any {b : Nat} (hb : 0 < b) : ∀ k x, dmax b (b - 1) k x
  | 0, _ => trivial
  | k + 1, x => ⟨by have := Nat.mod_lt x hb; omega, dmax_any hb k _⟩

theorem dmax_fold2 (s m : Nat) (hs : 0 < s) (hm : 2 * m < 2 ^ (2 * s)) : ∀ k x, dmax (2 ^ s) m (2 * k) x → dmax (2 ^ (2 * s)) (2 * m) k (fold2 s k x)
  | 0, _, _ => trivial
  | k + 1, x, h => by
    have h' : dmax (2 ^ s) m (2 * k + 2) x := h
    obtain ⟨h1, h2, h3⟩ := h'
    have hB : 2 ^ (2 * s) = 2 ^ s * 2 ^ s := pow_two_mul s
    have e : x % 2 ^ (2 * s) / 2 ^ s = x / 2 ^ s % 2 ^ s := by rw [hB, Nat.mod_mul_right_div_self]
    have hsum : x % 2 ^ (2 * s) / 2 ^ s + x % 2 ^ s < 2 ^ (2 * s) := by rw [e]; omega
    rw [fold2_succ s k x hs]
    refine ⟨?_, ?_⟩
    · rw [Nat.mul_comm (fold2 _ _ _), Nat.mul_add_mod, Nat.mod_eq_of_lt hsum, e]; omega
    · rw [Nat.mul_comm (fold2 _ _ _), Nat.mul_add_div (Nat.two_pow_pos _), Nat.div_eq_of_lt hsum, Nat.add_zero]
      refine dmax_fold2 s m hs hm k _ ?_
      rw [hB, ← Nat.div_div_eq_div_mul]
      exact h3

theorem fold2_lt (s k x : Nat) : fold2 s k x ≤ 2 * mask (2 * s) s k := by
  have h1 : x / 2 ^ s &&& mask (2 * s) s k ≤ mask (2 * s) s k := Nat.and_le_right
  have h2 : x &&& mask (2 * s) s k ≤ mask (2 * s) s k := Nat.and_le_right
  unfold fold2; omega

/-- The third step adds ahead of the mask. -/
theorem fold_last : ∀ k x, dmax 16 4 (2 * k + 1) x → (x / 16 + x) &&& mask 8 4 k = fold2 4 k x
  | 0, x, _ => by simp [fold2, mask]
  | k + 1, x, h => by
    have h' : dmax 16 4 (2 * k + 3) x := h
    obtain ⟨h1, h2, h3, h4⟩ := h'
    have e3 : x / 16 / 16 = x / 256 := by rw [Nat.div_div_eq_div_mul]
    rw [e3] at h3
    have ih := fold_last k (x / 256) ⟨h3, by rw [e3] at h4; exact h4⟩
    have key : x / 16 + x = (x / 256 / 16 + x / 256) * 2 ^ 8 + ((x / 256 % 16 + x / 16 % 16) * 16 + (x / 16 % 16 + x % 16)) := by
      have a1 := Nat.div_add_mod x 16
      have a2 := Nat.div_add_mod (x / 16) 16
      have a3 := Nat.div_add_mod (x / 256) 16
      rw [e3] at a2
      omega
    have hlt : (x / 256 % 16 + x / 16 % 16) * 16 + (x / 16 % 16 + x % 16) < 2 ^ 8 := by omega
    rw [key]
    simp only [mask]
    rw [land_fields _ _ _ _ _ hlt (by decide), ih, Nat.and_two_pow_sub_one_eq_mod, fold2_succ 4 k x (by decide)]
    have e : x % 2 ^ (2 * 4) / 2 ^ 4 = x / 16 % 16 := by show x % 256 / 16 = _; omega
    rw [e]
    show fold2 4 k (x / 256) * 2 ^ 8 + _ = fold2 4 k (x / 256) * 2 ^ 8 + _
    congr 1
    show _ % 16 = _ + x % 16
    omega

theorem mask1 : mask 2 1 32 = 6148914691236517205 := by decide
theorem mask2 : mask 4 2 16 = 3689348814741910323 := by decide
theorem mask4 : mask 8 4 8 = 1085102592571150095 := by decide

theorem bytes8 (c : Nat) (h : dmax 256 8 8 c) (hc : c < 18446744073709551616) :
    (c + c / 256 + (c + c / 256) / 65536 + (c + c / 256 + (c + c / 256) / 65536) / 4294967296) % 128 = dsum 256 8 c := by
  have cut : ∀ x, x % 256 ≤ 8 → ∃ b y, x = b + 256 * y ∧ b ≤ 8 ∧ x % 256 = b ∧ x / 256 = y := fun x hx => ⟨x % 256, x / 256, (Nat.mod_add_div x 256).symm, hx, rfl, rfl⟩
  obtain ⟨h0, h1, h2, h3, h4, h5, h6, h7, _⟩ := h
  simp only [dsum]
  obtain ⟨b0, c1, e0, l0, m0, d0⟩ := cut c h0
  rw [d0] at h1 h2 h3 h4 h5 h6 h7
  obtain ⟨b1, c2, e1, l1, m1, d1⟩ := cut c1 h1
  rw [d1] at h2 h3 h4 h5 h6 h7
  obtain ⟨b2, c3, e2, l2, m2, d2⟩ := cut c2 h2
  rw [d2] at h3 h4 h5 h6 h7
  obtain ⟨b3, c4, e3, l3, m3, d3⟩ := cut c3 h3
  rw [d3] at h4 h5 h6 h7
  obtain ⟨b4, c5, e4, l4, m4, d4⟩ := cut c4 h4
  rw [d4] at h5 h6 h7
  obtain ⟨b5, c6, e5, l5, m5, d5⟩ := cut c5 h5
  rw [d5] at h6 h7
  obtain ⟨b6, c7, e6, l6, m6, d6⟩ := cut c6 h6
  rw [d6] at h7
  obtain ⟨b7, c8, e7, l7, m7, d7⟩ := cut c7 h7
  simp only [d0, d1, d2, d3, d4, d5, d6, m0, m1, m2, m3, m4, m5, m6, m7]
  have h8 : c8 = 0 := by
    clear m0 m1 m2 m3 m4 m5 m6 m7 d0 d1 d2 d3 d4 d5 d6 d7 h0 h1 h2 h3 h4 h5 h6 h7 cut
    omega
  subst h8
  clear m0 m1 m2 m3 m4 m5 m6 m7 d0 d1 d2 d3 d4 d5 d6 d7 h0 h1 h2 h3 h4 h5 h6 h7 cut hc
  have s1 : (c + c1) / 65536 = c2 + c3 := by
    clear e3 e4 e5 e6 e7
    omega
  have s2 : (c + c1 + (c2 + c3)) / 4294967296 = c4 + c5 + (c6 + c7) := by
    have f3 : c2 = b2 + 256 * b3 + 65536 * c4 := by rw [e2, e3]; omega
    have f4 : c3 = b3 + 256 * b4 + 65536 * c5 := by rw [e3, e4]; omega
    have f5 : c4 = b4 + 256 * b5 + 65536 * c6 := by rw [e4, e5]; omega
    have g0 : c = b0 + 256 * b1 + 65536 * b2 + 16777216 * b3 + 4294967296 * c4 := by rw [e0, e1, f3]; omega
    have g1 : c1 = b1 + 256 * b2 + 65536 * b3 + 16777216 * b4 + 4294967296 * c5 := by rw [e1, e2, f4]; omega
    have g2 : c2 = b2 + 256 * b3 + 65536 * b4 + 16777216 * b5 + 4294967296 * c6 := by rw [f3, f5]; omega
    have g3 : c3 = b3 + 256 * b4 + 65536 * b5 + 16777216 * b6 + 4294967296 * c7 := by rw [f4, e5, e6]; omega
    clear f3 f4 f5 e0 e1 e2 e3 e4 e5 e6 e7 s1
    omega
  rw [s1, s2]
  clear s1 s2
  omega

/-- All of it: three folds, then the bytes. -/
theorem popc_eq (x : BitVec 64) : dsum 256 8 (fold2 4 8 (fold2 2 16 (fold2 1 32 x.toNat))) = popc x := by
  have a := dsum_fold2 1 (by decide) 32 x.toNat
  have b := dsum_fold2 2 (by decide) 16 (fold2 1 32 x.toNat)
  have c := dsum_fold2 4 (by decide) 8 (fold2 2 16 (fold2 1 32 x.toNat))
  exact c.trans (b.trans a)

theorem popc_max (x : BitVec 64) : dmax 16 4 17 (fold2 2 16 (fold2 1 32 x.toNat)) ∧ dmax 256 8 8 (fold2 4 8 (fold2 2 16 (fold2 1 32 x.toNat))) := by
  have a : dmax 4 2 32 (fold2 1 32 x.toNat) := dmax_fold2 1 1 (by decide) (by decide) 32 _ (dmax_any (by decide) 64 _)
  have b : dmax 16 4 16 (fold2 2 16 (fold2 1 32 x.toNat)) := dmax_fold2 2 2 (by decide) (by decide) 16 _ a
  have hb := fold2_lt 2 16 (fold2 1 32 x.toNat)
  rw [show mask (2 * 2) 2 16 = 3689348814741910323 from mask2] at hb
  refine ⟨?_, dmax_fold2 4 4 (by decide) (by decide) 8 _ b⟩
  have more : ∀ k y, dmax 16 4 k y → y < 16 ^ k → dmax 16 4 (k + 1) y := by
    intro k
    induction k with
    | zero => intro y _ h; simp at h; subst h; exact ⟨by decide, trivial⟩
    | succ k ih =>
      intro y h hy
      exact ⟨h.1, ih _ h.2 (by rw [Nat.div_lt_iff_lt_mul (by decide)]; rw [Nat.pow_succ] at hy; exact hy)⟩
  exact more 16 _ b (by omega)

theorem ones_parts (x : BitVec 64) : ∃ a b c d f g : Nat, (x.toNat / 2 &&& 6148914691236517205) + (x.toNat &&& 6148914691236517205) = a ∧ (a / 4 &&& 3689348814741910323) + (a &&& 3689348814741910323) = b ∧ (b / 16 + b) &&& 1085102592571150095 = c ∧
    c + c / 256 = d ∧ d + d / 65536 = f ∧ f + f / 4294967296 = g ∧ g % 128 = popc x ∧ a ≤ 2 * 6148914691236517205 ∧ b ≤ 2 * 3689348814741910323 ∧ c ≤ 2 * 1085102592571150095 := by
  have ha := fold2_lt 1 32 x.toNat
  have hb := fold2_lt 2 16 (fold2 1 32 x.toNat)
  have hc := fold2_lt 4 8 (fold2 2 16 (fold2 1 32 x.toNat))
  rw [show mask (2 * 1) 1 32 = 6148914691236517205 from mask1] at ha
  rw [show mask (2 * 2) 2 16 = 3689348814741910323 from mask2] at hb
  rw [show mask (2 * 4) 4 8 = 1085102592571150095 from mask4] at hc
  obtain ⟨hm1, hm2⟩ := popc_max x
  have hpc := popc_eq x
  have e3 := fold_last 8 _ hm1
  rw [mask4] at e3
  have hq := bytes8 _ hm2 (by omega)
  rw [hpc] at hq
  exact ⟨fold2 1 32 x.toNat, fold2 2 16 (fold2 1 32 x.toNat), fold2 4 8 (fold2 2 16 (fold2 1 32 x.toNat)), _, _, _,
    by unfold fold2; rw [show mask (2 * 1) 1 32 = 6148914691236517205 from mask1], by rw [show fold2 2 16 (fold2 1 32 x.toNat) = (fold2 1 32 x.toNat / 2 ^ 2 &&& mask (2 * 2) 2 16) + (fold2 1 32 x.toNat &&& mask (2 * 2) 2 16) from rfl, show mask (2 * 2) 2 16 = 3689348814741910323 from mask2],
    e3, rfl, rfl, rfl, hq, ha, hb, hc⟩
end Go.Proofs.YtakldmbbmefnbaaGreat
/- set.Has and set.Count, over math/bits.OnesCount64. -/
namespace Go.Proofs.YtakldmbbmefnbaaGreat
open Go.RowKit
theorem wrap_u64 (n : Nat) (h : n < 18446744073709551616) : IntKind.u64.wrap (n : Int) = n := by
  show (n : Int) % 18446744073709551616 = n
  omega
theorem and_u64 (a b : Nat) (ha : a < 18446744073709551616) (hb : b < 18446744073709551616) : bits .and .u64 (a : Int) (b : Int) = ((a &&& b : Nat) : Int) := u64_and_nat a b ha hb

theorem and_i64 (a b : Nat) (ha : a < 9223372036854775808) (hb : b < 9223372036854775808) : bits .and .i64 (a : Int) (b : Int) = ((a &&& b : Nat) : Int) := by
  have ofn : ∀ n : Nat, n < 9223372036854775808 → (BitVec.ofInt 64 (n : Int)).toNat = n := fun n hn => by
    rw [BitVec.ofInt_natCast, BitVec.toNat_ofNat]; exact Nat.mod_eq_of_lt (by omega)
  have hx : a &&& b < 9223372036854775808 := Nat.lt_of_le_of_lt Nat.and_le_left ha
  show IntKind.i64.wrap ((BitVec.ofInt 64 (a : Int) &&& BitVec.ofInt 64 (b : Int)).toNat : Int) = _
  rw [BitVec.toNat_and, ofn a ha, ofn b hb, IntKind.wrap_i64]
  omega

theorem ones_ok (x : BitVec 64) (w : World) :
    Calls Tryz.prog 143 #[.int .u64 x.toNat] w (fun r w' => r = .returned (.int .i64 (popc x)) ∧ w' = w) := by
  have hx : x.toNat < 18446744073709551616 := x.isLt
  obtain ⟨a, b, c, d, f, g, f1, f2, e3, ed, ef, eg, hq, ha, hb, hc⟩ := ones_parts x
  generalize x.toNat = n at *
  generalize popc x = p at *
  have r1 : IntKind.u64.wrap (bits BinOp.and IntKind.u64 ((n : Int) / 2) 6148914691236517205 + bits BinOp.and IntKind.u64 (n : Int) 6148914691236517205) = (a : Int) := by
    have h1 := and_u64 (n / 2) 6148914691236517205 (by omega) (by decide)
    have h2 := and_u64 n 6148914691236517205 hx (by decide)
    have h3 : bits BinOp.and IntKind.u64 ((n : Int) / 2) 6148914691236517205 + bits BinOp.and IntKind.u64 (n : Int) 6148914691236517205 = ((a : Nat) : Int) := by
      rw [show ((n : Int) / 2) = ((n / 2 : Nat) : Int) by omega]
      rw [show (6148914691236517205 : Int) = ((6148914691236517205 : Nat) : Int) from rfl, h1, h2, ← f1]; simp
    rw [h3, wrap_u64 _ (by omega)]
  have r2 : IntKind.u64.wrap (bits BinOp.and IntKind.u64 ((a : Int) / 4) 3689348814741910323 + bits BinOp.and IntKind.u64 (a : Int) 3689348814741910323) = (b : Int) := by
    have h1 := and_u64 (a / 4) 3689348814741910323 (by omega) (by decide)
    have h2 := and_u64 a 3689348814741910323 (by omega) (by decide)
    have h3 : bits BinOp.and IntKind.u64 ((a : Int) / 4) 3689348814741910323 + bits BinOp.and IntKind.u64 (a : Int) 3689348814741910323 = ((b : Nat) : Int) := by
      rw [show ((a : Int) / 4) = ((a / 4 : Nat) : Int) by omega]
      rw [show (3689348814741910323 : Int) = ((3689348814741910323 : Nat) : Int) from rfl, h1, h2, ← f2]; simp
    rw [h3, wrap_u64 _ (by omega)]
  have r3 : bits BinOp.and IntKind.u64 (IntKind.u64.wrap ((b : Int) / 16 + (b : Int))) 1085102592571150095 = (c : Int) := by
    rw [show ((b : Int) / 16 + (b : Int)) = ((b / 16 + b : Nat) : Int) by omega, wrap_u64 _ (by omega)]
    have h1 := and_u64 (b / 16 + b) 1085102592571150095 (by omega) (by decide)
    rw [show (1085102592571150095 : Int) = ((1085102592571150095 : Nat) : Int) from rfl, h1, e3]
  have r4 : IntKind.u64.wrap ((c : Int) + (c : Int) / 256) = (d : Int) := by
    rw [show ((c : Int) + (c : Int) / 256) = ((c + c / 256 : Nat) : Int) by omega, wrap_u64 _ (by omega), ed]
  have r5 : IntKind.u64.wrap ((d : Int) + (d : Int) / 65536) = (f : Int) := by
    rw [show ((d : Int) + (d : Int) / 65536) = ((d + d / 65536 : Nat) : Int) by omega, wrap_u64 _ (by omega), ef]
  have r6 : IntKind.u64.wrap ((f : Int) + (f : Int) / 4294967296) = (g : Int) := by
    rw [show ((f : Int) + (f : Int) / 4294967296) = ((f + f / 4294967296 : Nat) : Int) by omega, wrap_u64 _ (by omega), eg]
  have hg : g < 9223372036854775808 := by omega
  clear f1 f2 e3 ed ef eg ha hb hc hx
  have HQ := Lib.hid hq
  clear hq
  go_enter Tryz.func143, Tryz.ntmps143
  go_wp2
  go_ret
  refine ⟨?_, rfl⟩
  have h1 := and_i64 g 127 hg (by decide)
  have h2 : g &&& 127 = g % 128 := Nat.and_two_pow_sub_one_eq_mod g 7
  rw [h2, HQ.out] at h1
  exact congrArg (fun z => Ending.returned (.int .i64 z)) h1

theorem has_ok (s : BSet) (b : Nat) (hb : b < 256) (w : World) :
    Calls Tryz.prog 133 #[vS s, .int .u8 b] w (fun r w' => r = .returned (.bool (s.has b)) ∧ Below w.heap.size w w') := by
  unfold vS
  have hx := word_at s (b / 64) (by omega)
  have hlt : (s.word (b / 64)).toNat < 18446744073709551616 := (s.word (b / 64)).isLt
  have hv : (bits BinOp.and IntKind.u64 ((s.word (b / 64)).toNat / 2 ^ (b % 64) : Int) 1 == 1) = s.has b := by
    have h1 := and_u64 ((s.word (b / 64)).toNat / 2 ^ (b % 64)) 1 (Nat.lt_of_le_of_lt (Nat.div_le_self _ _) hlt) (by decide)
    have h2 : (((s.word (b / 64)).toNat : Int) / 2 ^ (b % 64)) = (((s.word (b / 64)).toNat / 2 ^ (b % 64) : Nat) : Int) := by simp
    rw [h2, show (1 : Int) = ((1 : Nat) : Int) from rfl, h1]
    unfold BSet.has
    rw [Bool.eq_iff_iff]
    simp only [beq_iff_eq, Int.natCast_inj]
    rw [BitVec.getLsbD, Nat.testBit, Nat.shiftRight_eq_div_pow]
    rw [Nat.and_comm]
    have := Nat.and_one_is_mod ((s.word (b / 64)).toNat / 2 ^ (b % 64))
    rw [Nat.and_comm] at this
    rw [this]
    have := Nat.mod_lt ((s.word (b / 64)).toNat / 2 ^ (b % 64)) (show 0 < 2 by decide)
    simp
  have HV := Lib.hid hv
  clear hv hlt
  go_enter Tryz.func133, Tryz.ntmps133
  go_wp2
  go_ret
  exact ⟨congrArg (fun z => Ending.returned (.bool z)) HV.out, (Below.refl _ _).alloc (Nat.le_refl _) _⟩

def cnt (s : BSet) : Nat → Nat
  | 0 => 0
  | k + 1 => cnt s k + popc (s.word k)
theorem cnt_le (s : BSet) : ∀ k, cnt s k ≤ 64 * k
  | 0 => Nat.le_refl _
  | k + 1 => by have := cnt_le s k; have := popc_le (s.word k); simp only [cnt]; omega
theorem cnt_all (s : BSet) : cnt s 4 = s.count := by simp [cnt, BSet.count, BSet.word]

theorem index_word (s : BSet) (k : Nat) (hk : k < 4) : ∀ w, (Instr.index 69 (.agg #[.int .u64 s.w0.toNat, .int .u64 s.w1.toNat, .int .u64 s.w2.toNat, .int .u64 s.w3.toNat]) (.int .i64 k)).run Tryz.prog w = .ok (.int .u64 (s.word k).toNat) w := by
  intro w
  have hx := word_at s k hk
  have hi : ¬ 4 ≤ k := by omega
  simp [Instr.index, asIntOf, go_sem, Tryz.sizeOf67, Tryz.isAgg67, part, hx, hi]

theorem count_ok (s : BSet) (w : World) :
    Calls Tryz.prog 95 #[vS s] w (fun r w' => r = .returned (.int .i64 s.count) ∧ Below w.heap.size w w') := by
  obtain ⟨F, G, hc, h0, hs, h4, hle⟩ : ∃ F G : Nat → Nat, (∀ k W, Calls Tryz.prog 143 #[.int .u64 (s.word k).toNat] W (fun r w' => r = .returned (.int .i64 (F k)) ∧ w' = W)) ∧
      0 = G 0 ∧ (∀ k, G k + F k = G (k + 1)) ∧ G 4 = s.count ∧ (∀ k, F k ≤ 64 ∧ G k ≤ 64 * k) :=
    ⟨fun k => popc (s.word k), cnt s, fun k W => ones_ok _ W, rfl, fun _ => rfl, cnt_all s, fun k => ⟨popc_le _, cnt_le s k⟩⟩
  rw [← h4]
  clear h4
  have HS := Lib.hid hs
  have H0 := Lib.hid h0
  clear hs h0
  unfold vS
  go_enter Tryz.func95, Tryz.ntmps95
  go_wp2
  go_loop [3, 7] (fun n i => ∃ k : Nat, k ≤ 4 ∧ i = .int .i64 k ∧ n = .int .i64 (G k)) (fun _ i => 4 - (intOf i).toNat)
  case atStart => exact ⟨0, by omega, rfl, by rw [← H0.out]; rfl⟩
  case round =>
    obtain ⟨k, hk, rfl, rfl⟩ := hrel
    by_cases hlt : k < 4
    · have hi := index_word s k hlt
      have h1 := hle k
      have hc := hc k
      clear hle
      go_wp2_with (go_at_call 143; refine (hc _).mono ?_; rintro e w1 ⟨rfl, rfl⟩)
      go_round
      case rel => exact ⟨k + 1, by omega, by go_num, by rw [← HS.out k]; go_num⟩
      case measure => simp [intOf]; omega
    · have : k = 4 := by omega
      subst this
      clear hle hc
      go_wp2
      go_ret
      exact ⟨rfl, (Below.refl _ _).alloc (Nat.le_refl _) _⟩
end Go.Proofs.YtakldmbbmefnbaaGreat
/- A region whose order is open, each of whose operations yields one value in whatever order: it may be walked operation by operation. -/
namespace Go.Proofs.YtakldmbbmefnbaaGreat
open Go.RowKit

/-- What an operation leaves in its slot. -/
def valOf (fin : Act) (o : Oper) : Value := match o.dst with | some d => fin.tmps.getD d undef | none => undef

/-- Nothing is looked at that another operation writes, but behind it. -/
def depsOk (ops : Array Oper) : Bool :=
  (List.range ops.size).all fun i => match ops[i]? with
    | none => true
    | some o => (o.after.all fun e => !Region.binds .any e || decide (e.on < i)) && (match o.op with | .select .. => false | _ => true) &&
      ((o.looksAt ops).all fun t => (List.range ops.size).all fun j => match ops[j]? with
        | none => true
        | some o' => (o'.dst != some t) || (o.after.any fun e => e.on == j && Region.binds .any e))

/-- No slot is written twice. -/
def dstsOk (ops : Array Oper) : Bool :=
  (List.range ops.size).all fun i => (List.range ops.size).all fun j => i == j || (match ops[i]?, ops[j]? with
    | some o, some o' => (match o.dst with | some d => o'.dst != some d | none => true)
    | _, _ => true)

def stepOk (P : Program) (ops : Array Oper) (Q : Exit → Act → World → Prop) (S : World → Prop) (fin : Act) (o : Oper) (w : World) : Prop :=
  if Region.wanted o (yielded ops fin.tmps) then ∀ (a : Act) (K : Act → World → Prop), (∀ w', S w' → K (a.put o.dst (valOf fin o)) w') → o.upon P a K Q ((execOp fin.eval o).run P w)
  else valOf fin o = undef

/-- The frame when some operations have been carried out. -/
structure Mid (ops : Array Oper) (a0 fin : Act) (listed : Array Bool) (a : Act) : Prop where
  defers : a.defers = a0.defers
  size : a.tmps.size = fin.tmps.size
  done : ∀ (j : Nat) (o : Oper) (d : Tmp), ops[j]? = some o → o.dst = some d → listed.getD j false = true → a.tmps[d]? = fin.tmps[d]?
  rest : ∀ t : Tmp, (∀ (j : Nat) (o : Oper), ops[j]? = some o → listed.getD j false = true → o.dst ≠ some t) → a.tmps[t]? = a0.tmps[t]?

section
variable {P : Program} {ops : Array Oper} {Q : Exit → Act → World → Prop} {S : World → Prop} {a0 fin : Act}

theorem Mid.start (hs : a0.tmps.size = fin.tmps.size) : Mid ops a0 fin (Array.replicate ops.size false) a0 :=
  ⟨rfl, hs, fun j o d ho hd hl => by
    have : (Array.replicate ops.size false).getD j false = false := by
      by_cases h : j < ops.size <;> simp [h]
    rw [this] at hl; exact absurd hl (by simp), fun _ _ => rfl⟩

theorem Mid.put {listed : Array Bool} {a : Act} (h : Mid ops a0 fin listed a) {i : Nat} {o : Oper} (hi : ops[i]? = some o) (hlt : i < listed.size) (hd : dstsOk ops = true) :
    Mid ops a0 fin (listed.setIfInBounds i true) (a.put o.dst (valOf fin o)) := by
  have hin : i < ops.size := (Array.getElem?_eq_some_iff.1 hi).1
  have hdst : ∀ (j : Nat) (o' : Oper) (d : Tmp), ops[j]? = some o' → o.dst = some d → o'.dst = some d → j = i := by
    intro j o' d hj hod hod'
    have hjn : j < ops.size := (Array.getElem?_eq_some_iff.1 hj).1
    unfold dstsOk at hd
    have h1 := List.all_eq_true.1 hd i (List.mem_range.2 hin)
    have h2 := List.all_eq_true.1 h1 j (List.mem_range.2 hjn)
    simp only [hi, hj, hod, hod', bne_self_eq_false, Bool.or_false, beq_iff_eq] at h2
    exact h2.symm
  have hget : ∀ j, (listed.setIfInBounds i true).getD j false = if j = i then true else listed.getD j false := by
    intro j
    by_cases e : j = i
    · subst e; simp [hlt]
    · simp only [e, if_false, Array.getD_eq_getD_getElem?]
      rw [Array.getElem?_setIfInBounds_ne (fun h => e h.symm)]
  refine ⟨?_, ?_, ?_, ?_⟩
  · cases ho : o.dst <;> simp [Act.put, h.defers]
  · cases ho : o.dst <;> simp [Act.put, h.size]
  · intro j o' d hj hod hl
    rw [hget] at hl
    by_cases e : j = i
    · subst e
      rw [hi] at hj
      cases hj
      simp only [valOf, hod, Act.put]
      by_cases hb : d < fin.tmps.size
      · rw [Array.getElem?_setIfInBounds_self_of_lt (by rw [h.size]; exact hb)]
        simp [hb]
      · rw [Array.getElem?_eq_none (by simp only [Array.size_setIfInBounds, h.size]; exact Nat.le_of_not_lt hb), Array.getElem?_eq_none (Nat.le_of_not_lt hb)]
    · rw [if_neg e] at hl
      have := h.done j o' d hj hod hl
      cases hoo : o.dst with
      | none => simpa [Act.put] using this
      | some d' =>
        have hne : d' ≠ d := fun hh => e (hdst j o' d hj (hh ▸ hoo) hod)
        simp only [Act.put]
        rw [Array.getElem?_setIfInBounds_ne hne]
        exact this
  · intro t ht
    have h1 : o.dst ≠ some t := ht i o hi (by rw [hget]; simp)
    have h2 := h.rest t (fun j o' hj hl => ht j o' hj (by rw [hget]; split <;> simp_all))
    cases hoo : o.dst with
    | none => simpa [Act.put] using h2
    | some d' =>
      have hne : d' ≠ t := fun hh => h1 (hh ▸ hoo)
      simp only [Act.put]
      rw [Array.getElem?_setIfInBounds_ne hne]
      exact h2

theorem Mid.look {listed : Array Bool} {a : Act} (h : Mid ops a0 fin listed a) (hall : ∀ t : Tmp, (∀ (j : Nat) (o : Oper), ops[j]? = some o → o.dst ≠ some t) → fin.tmps[t]? = a0.tmps[t]?)
    {i : Nat} {o : Oper} (hi : ops[i]? = some o) (hd : depsOk ops = true) (hr : i ∈ Region.ready .any ops listed) {t : Tmp} (ht : t ∈ o.looksAt ops) : a.tmps[t]? = fin.tmps[t]? := by
  have hin : i < ops.size := (Array.getElem?_eq_some_iff.1 hi).1
  by_cases hw : ∃ (j : Nat) (o' : Oper), ops[j]? = some o' ∧ o'.dst = some t
  · obtain ⟨j, o', hj, hod⟩ := hw
    have hjn : j < ops.size := (Array.getElem?_eq_some_iff.1 hj).1
    refine h.done j o' t hj hod ?_
    unfold depsOk at hd
    have h1 := List.all_eq_true.1 hd i (List.mem_range.2 hin)
    simp only [hi, Bool.and_eq_true] at h1
    have h2 := List.all_eq_true.1 h1.2 t ht
    have h3 := List.all_eq_true.1 h2 j (List.mem_range.2 hjn)
    simp only [hj, hod, bne_self_eq_false, Bool.false_or] at h3
    obtain ⟨e, he, heq⟩ := Array.any_eq_true'.1 h3
    simp only [Bool.and_eq_true, beq_iff_eq] at heq
    obtain ⟨he1, he2⟩ := heq
    simp only [Region.ready, List.mem_filter, hi, Option.map_some, Option.getD_some, Bool.and_eq_true] at hr
    have h5 := Array.all_eq_true'.1 hr.2.2 e he
    simp only [he2, Bool.not_true, Bool.false_or] at h5
    rw [he1] at h5
    exact h5
  · have hw' : ∀ (j : Nat) (o' : Oper), ops[j]? = some o' → o'.dst ≠ some t := fun j o' hj hod => hw ⟨j, o', hj, hod⟩
    rw [hall t hw']
    exact h.rest t (fun j o' hj _ => hw' j o' hj)

theorem step_at {listed : Array Bool} {a : Act} (h : Mid ops a0 fin listed a) (hall : ∀ t : Tmp, (∀ (j : Nat) (o : Oper), ops[j]? = some o → o.dst ≠ some t) → fin.tmps[t]? = a0.tmps[t]?)
    (hd : depsOk ops = true) {i : Nat} {o : Oper} (hi : ops[i]? = some o) (hr : i ∈ Region.ready .any ops listed) {w : World} (hs : stepOk P ops Q S fin o w) {K : Act → World → Prop} (hK : ∀ w', S w' → K (a.put o.dst (valOf fin o)) w') (hw : S w) :
    wpOp P ops Q i K a w := by
  have hin : i < ops.size := (Array.getElem?_eq_some_iff.1 hi).1
  have hlook : ∀ t ∈ o.looksAt ops, a.tmps[t]? = fin.tmps[t]? := fun t ht => h.look hall hi hd hr ht
  have hy : Region.wanted o (yielded ops a.tmps) = Region.wanted o (yielded ops fin.tmps) := by
    unfold Region.wanted
    cases hg : o.guard with
    | none => rfl
    | some g =>
      obtain ⟨j, want⟩ := g
      simp only [yielded]
      cases hj : (ops[j]?).bind (·.dst) with
      | none => rfl
      | some t =>
        have : t ∈ o.looksAt ops := by simp [Oper.looksAt, hg, hj]
        simp [hlook t this]
  have he : execOp a.eval o = execOp fin.eval o := by
    refine execOp_congr o ?_ ?_
    · intro cs b hc
      unfold depsOk at hd
      have h1 := List.all_eq_true.1 hd i (List.mem_range.2 hin)
      simp [hi, hc] at h1
    · intro x hx
      cases x with
      | tmp t =>
        have ht : t ∈ o.looksAt ops := by
          unfold Oper.looksAt
          refine List.mem_append.2 (.inl ?_)
          exact List.mem_filterMap.2 ⟨.tmp t, by simpa using hx, rfl⟩
        have := hlook t ht
        simp only [Act.eval, Array.getD_eq_getD_getElem?, this]
      | _ => rfl
  unfold wpOp
  rw [hi]
  simp only [hy]
  unfold stepOk at hs
  by_cases hwt : Region.wanted o (yielded ops fin.tmps) = true
  · rw [if_pos hwt] at hs ⊢
    left
    unfold Oper.wp
    rw [he]
    exact hs a K hK
  · rw [if_neg hwt] at hs ⊢
    rw [← hs]
    exact hK w hw

theorem nodup_le : ∀ (n : Nat) (l : List Nat), l.Nodup → (∀ i ∈ l, i < n) → l.length ≤ n
  | 0, l, _, h => by
    cases l with
    | nil => simp
    | cons x xs => exact absurd (h x (by simp)) (by omega)
  | n + 1, l, hnd, h => by
    by_cases hm : n ∈ l
    · have h1 := nodup_le n (l.erase n) (hnd.erase n) (fun i hi => by
        have h2 := h i (List.mem_of_mem_erase hi)
        have h3 : i ≠ n := fun e => by subst e; exact (hnd.not_mem_erase) hi
        omega)
      rw [List.length_erase_of_mem hm] at h1
      omega
    · have h1 := nodup_le n l hnd (fun i hi => by
        have h2 := h i hi
        have h3 : i ≠ n := fun e => hm (e ▸ hi)
        omega)
      omega

theorem any_mono (hd : depsOk ops = true) (hdd : dstsOk ops = true) (hall : ∀ t : Tmp, (∀ (j : Nat) (o : Oper), ops[j]? = some o → o.dst ≠ some t) → fin.tmps[t]? = a0.tmps[t]?) (hdf : fin.defers = a0.defers)
    (hstep : ∀ (i : Nat) (o : Oper), ops[i]? = some o → ∀ w, S w → stepOk P ops Q S fin o w) (hend : ∀ w, S w → Q .normal fin w) :
    ∀ (fuel : Nat) (listed : Array Bool) (a : Act) (w : World), listed.size = ops.size → (∀ l : List Nat, l.Nodup → (∀ i ∈ l, i < ops.size ∧ listed.getD i true = false) → l.length ≤ fuel) → Mid ops a0 fin listed a → S w → wpAny P .any ops Q fuel listed a w := by
  have full : ∀ (listed : Array Bool) (a : Act), listed.size = ops.size → (∀ i, i < ops.size → listed.getD i true = true) → Mid ops a0 fin listed a → a = fin := by
    intro listed a hs hl hm
    have : a.tmps = fin.tmps := by
      apply Array.ext_getElem?
      intro t
      by_cases hw : ∃ (j : Nat) (o' : Oper), ops[j]? = some o' ∧ o'.dst = some t
      · obtain ⟨j, o', hj, hod⟩ := hw
        have hjn : j < ops.size := (Array.getElem?_eq_some_iff.1 hj).1
        refine hm.done j o' t hj hod ?_
        have := hl j hjn
        have hjl : j < listed.size := by omega
        simpa [Array.getD, hjl] using this
      · have hw' : ∀ (j : Nat) (o' : Oper), ops[j]? = some o' → o'.dst ≠ some t := fun j o' hj hod => hw ⟨j, o', hj, hod⟩
        rw [hall t hw']
        exact hm.rest t (fun j o' hj _ => hw' j o' hj)
    cases a; cases fin
    simp only at this hdf
    have h2 := hm.defers
    simp only at h2
    rw [this, h2, hdf]
  have noReady : ∀ (listed : Array Bool), listed.size = ops.size → Region.ready .any ops listed = [] → ∀ i, i < ops.size → listed.getD i true = true := by
    intro listed hs hr i
    induction i using Nat.strongRecOn with
    | _ i ih =>
      intro hi
      cases hl : listed.getD i true with
      | true => rfl
      | false =>
        exfalso
        have ho : ops[i]? = some ops[i] := Array.getElem?_eq_getElem hi
        have : i ∈ Region.ready .any ops listed := by
          simp only [Region.ready, List.mem_filter, List.mem_range, hi, hl, ho, Option.map_some, Option.getD_some, Bool.not_false, Bool.true_and, true_and]
          refine Array.all_eq_true'.2 fun e he => ?_
          unfold depsOk at hd
          have h1 := List.all_eq_true.1 hd i (List.mem_range.2 hi)
          simp only [ho, Bool.and_eq_true] at h1
          have h2 := Array.all_eq_true'.1 h1.1.1 e he
          simp only [Bool.or_eq_true, decide_eq_true_eq] at h2 ⊢
          rcases h2 with h2 | h2
          · exact .inl h2
          · right
            have h3 := ih e.on h2 (by omega)
            have hel : e.on < listed.size := by omega
            simpa [Array.getD, hel] using h3
        rw [hr] at this
        cases this
  intro fuel
  induction fuel with
  | zero =>
    intro listed a w hs hf hm hw
    have hl : ∀ i, i < ops.size → listed.getD i true = true := by
      intro i hi
      cases h : listed.getD i true with
      | true => rfl
      | false =>
        have := hf [i] (by simp) (fun j hj => by rw [List.mem_singleton.1 hj]; exact ⟨hi, h⟩)
        simp at this
    have ha := full listed a hs hl hm
    refine ⟨?_, ha ▸ hend w hw⟩
    unfold Region.ready
    rw [List.filter_eq_nil_iff]
    intro i hi
    simp [hl i (List.mem_range.1 hi)]
  | succ fuel ih =>
    intro listed a w hs hf hm hw
    refine ⟨fun hr => ?_, fun i hi => ?_⟩
    · have ha := full listed a hs (noReady listed hs hr) hm
      exact ha ▸ hend w hw
    · have him := hi
      simp only [Region.ready, List.mem_filter, List.mem_range, Bool.and_eq_true, Bool.not_eq_true'] at him
      obtain ⟨hlt, hun, _⟩ := him
      have ho : ops[i]? = some ops[i] := Array.getElem?_eq_getElem hlt
      have hil : i < listed.size := by omega
      refine step_at hm hall hd ho hi (hstep i _ ho w hw) (fun w' hw' => ?_) hw
      refine ih _ _ w' (by simpa using hs) ?_ (hm.put ho hil hdd) hw'
      intro l hnd hl
      have hni : i ∉ l := by
        intro hmem
        have := (hl i hmem).2
        simp [Array.getD, hil] at this
      have := hf (i :: l) (List.nodup_cons.2 ⟨hni, hnd⟩) (by
        intro j hj
        rcases List.mem_cons.1 hj with rfl | hj
        · exact ⟨hlt, hun⟩
        · obtain ⟨h1, h2⟩ := hl j hj
          refine ⟨h1, ?_⟩
          have hne : i ≠ j := fun e => hni (e ▸ hj)
          simpa [Array.getD_eq_getD_getElem?, Array.getElem?_setIfInBounds_ne hne] using h2)
      simp at this
      omega

/-- **A region whose order is open, walked operation by operation**: in every world that meets S each operation yields its value in the last frame and leaves a world that meets S. -/
theorem wp_region_mono {id : Nat} {w : World} (hm : P.follows .mixedOrders = true) (S : World → Prop) (fin : Act) (hd : depsOk ops = true) (hdd : dstsOk ops = true)
    (hsz : a0.tmps.size = fin.tmps.size) (hdf : fin.defers = a0.defers) (hall : ∀ t : Tmp, t < fin.tmps.size → (ops.toList.any fun o => o.dst == some t) = false → fin.tmps[t]? = a0.tmps[t]?)
    (h0 : S w.drew) (hstep : ∀ (i : Nat) (o : Oper), ops[i]? = some o → ∀ w, S w → stepOk P ops Q S fin o w) (hend : ∀ w, S w → Q .normal fin w) :
    (Code.region id ops true).wp P Q a0 w := by
  have hall' : ∀ t : Tmp, (∀ (j : Nat) (o : Oper), ops[j]? = some o → o.dst ≠ some t) → fin.tmps[t]? = a0.tmps[t]? := by
    intro t ht
    by_cases hb : t < fin.tmps.size
    · refine hall t hb ?_
      rw [List.any_eq_false]
      intro o ho
      obtain ⟨j, hj, rfl⟩ := List.getElem_of_mem ho
      have := ht j ops[j] (Array.getElem?_eq_getElem (by simpa using hj))
      simpa using this
    · rw [Array.getElem?_eq_none (Nat.le_of_not_lt hb), Array.getElem?_eq_none (hsz ▸ Nat.le_of_not_lt hb)]
  refine wp_region_any hm (any_mono hd hdd hall' hdf hstep hend ops.size _ a0 _ (by simp) ?_ (Mid.start hsz) h0)
  intro l hnd hl
  exact nodup_le ops.size l hnd (fun i hi => (hl i hi).1)

theorem stepOk_yes {o : Oper} {w : World} (h : Region.wanted o (yielded ops fin.tmps) = true) (hs : ∀ (a : Act) (K : Act → World → Prop), (∀ w', S w' → K (a.put o.dst (valOf fin o)) w') → o.upon P a K Q ((execOp fin.eval o).run P w)) : stepOk P ops Q S fin o w := by
  unfold stepOk; rw [if_pos h]; exact hs
theorem stepOk_no {o : Oper} {w : World} (h : Region.wanted o (yielded ops fin.tmps) = false) (hv : valOf fin o = undef) : stepOk P ops Q S fin o w := by
  unfold stepOk; rw [if_neg (by rw [h]; decide)]; exact hv

/-- Each of the operations yields its value. -/
def AllStep (P : Program) (ops : Array Oper) (Q : Exit → Act → World → Prop) (S : World → Prop) (fin : Act) (w : World) : List Oper → Prop
  | [] => True
  | o :: r => stepOk P ops Q S fin o w ∧ AllStep P ops Q S fin w r

theorem allStep_mem {w : World} : ∀ (l : List Oper), AllStep P ops Q S fin w l → ∀ o ∈ l, stepOk P ops Q S fin o w
  | [], _, o, h => by cases h
  | o' :: r, h, o, hm => by
    rcases List.mem_cons.1 hm with rfl | hm
    · exact h.1
    · exact allStep_mem r h.2 o hm

def putAll (fin : Act) : List Oper → Array Value → Array Value
  | [], tm => tm
  | o :: r, tm => putAll fin r (match o.dst with | some d => tm.setIfInBounds d (fin.tmps.getD d undef) | none => tm)

theorem putAll_size : ∀ (l : List Oper) (tm : Array Value), (putAll fin l tm).size = tm.size
  | [], _ => rfl
  | o :: r, tm => by
    rw [putAll, putAll_size r]
    cases o.dst <;> simp

theorem putAll_other (t : Tmp) : ∀ (l : List Oper) (tm : Array Value), (l.any fun o => o.dst == some t) = false → (putAll fin l tm)[t]? = tm[t]?
  | [], _, _ => rfl
  | o :: r, tm, h => by
    simp only [List.any_cons, Bool.or_eq_false_iff] at h
    rw [putAll, putAll_other t r _ h.2]
    cases hd : o.dst with
    | none => rfl
    | some d =>
      have hne : d ≠ t := fun e => by subst e; simp [hd] at h
      simp only []
      rw [Array.getElem?_setIfInBounds_ne hne]

theorem wp_region_all {id : Nat} {w : World} (hm : P.follows .mixedOrders = true) (S : World → Prop) (fin : Act) (hd : depsOk ops = true) (hdd : dstsOk ops = true)
    (hfin : fin.tmps = putAll fin ops.toList a0.tmps) (hdf : fin.defers = a0.defers)
    (h0 : S w.drew) (hstep : ∀ w, S w → AllStep P ops Q S fin w ops.toList) (hend : ∀ w, S w → Q .normal fin w) :
    (Code.region id ops true).wp P Q a0 w := by
  refine wp_region_mono hm S fin hd hdd ?_ hdf ?_ h0 (fun _ o ho w hS => allStep_mem _ (hstep w hS) o (Array.mem_toList_iff.2 (Array.mem_of_getElem? ho))) hend
  · have := congrArg Array.size hfin
    rw [putAll_size] at this
    exact this.symm
  · intro t _ ht
    have h := putAll_other (fin := fin) t _ a0.tmps ht
    rw [← hfin] at h
    exact h
end
end Go.Proofs.YtakldmbbmefnbaaGreat
/- fa.Check: which automata may be. -/
namespace Go.Proofs.YtakldmbbmefnbaaGreat
open Go.RowKit

/-- Is there such a state? -/
def inB (st n : Int) : Bool := decide (0 ≤ n) && decide (n < st)
def mayE (st : Int) (e : E) : Bool := inB st e.src && inB st e.dst && (e.free == decide (e.set.count = 0))
def A.ok (a : A) : Bool := decide (0 ≤ a.states) && a.start.all (inB a.states) && a.final.all (inB a.states) && a.edges.all (mayE a.states)

theorem check1 (st : Int) (b : Nat) (w : World) (hb : b < w.heap.size) (hc : w.cell? ⟨b, 0, none⟩ = some (.int .i64 st)) :
    Pred1 Tryz.prog (fun x => .int .i64 x) (.func (.func 93) #[] #[.pointer (some ⟨b, 0, none⟩)]) (fun _ => True) (inB st) w := by
  refine ⟨_, _, rfl, Tryz.call93, fun W n hd hW => ?_⟩
  have hc' := (hW.cell (p := ⟨b, 0, none⟩) hb).trans hc
  clear hc
  by_cases h0 : 0 ≤ n
  · by_cases h1 : n < st
    · have hr : inB st n = true := by simp [inB, h0, h1]
      rw [hr]
      clear hr
      go_enter Tryz.func93, Tryz.ntmps93
      go_wp2
      go_ret
      exact ⟨by simp, Below.refl _ _⟩
    · have hr : inB st n = false := by simp [inB, h1]
      rw [hr]
      clear hr
      go_enter Tryz.func93, Tryz.ntmps93
      go_wp2
      go_ret
      exact ⟨by simp, Below.refl _ _⟩
  · have hr : inB st n = false := by simp [inB, h0]
    rw [hr]
    clear hr
    go_enter Tryz.func93, Tryz.ntmps93
    go_wp2
    go_ret
    exact ⟨rfl, Below.refl _ _⟩
set_option maxRecDepth 100000 in
set_option maxHeartbeats 1000000 in
theorem check2 (st : Int) (fv : Value) (b : Nat) (w : World) (hb : b < w.heap.size) (hc : w.cell? ⟨b, 0, none⟩ = some fv) (hp : Pred1 Tryz.prog (fun x => .int .i64 x) fv (fun _ => True) (inB st) w) :
    Pred1 Tryz.prog (fun x => vE x) (.func (.func 94) #[] #[.pointer (some ⟨b, 0, none⟩)]) (fun _ => True) (mayE st) w := by
  refine ⟨_, _, rfl, Tryz.call94, fun W n hd hW => ?_⟩
  have hc' := (hW.cell (p := ⟨b, 0, none⟩) hb).trans hc
  clear hc
  have hb' := Nat.lt_of_lt_of_le hb hW.size
  obtain ⟨k, lb, rfl, hen, hpc⟩ := id hp
  clear hp
  unfold vE
  go_enter Tryz.func94, Tryz.ntmps94
  go_wp2
  obtain ⟨W1, hW1⟩ : ∃ W1, W.alloc (.cells #[.int .i64 n.src, .int .i64 n.dst, .bool n.free, .int .u64 n.set.w0.toNat, .int .u64 n.set.w1.toNat, .int .u64 n.set.w2.toNat, .int .u64 n.set.w3.toNat] 73) = W1 := ⟨_, rfl⟩
  have hB1 : Below W.heap.size W W1 := hW1 ▸ alloc1 W _
  have hsz : W.heap.size < W1.heap.size := by rw [← hW1]; simp
  have hS : ∀ w', Below W1.heap.size W1 w' → Below W1.heap.size W1 w' ∧ w'.cell? ⟨b, 0, none⟩ = some (.func (.func k) #[] lb) ∧ w'.cell? ⟨W.heap.size, 0, none⟩ = some (.int .i64 n.src) ∧ w'.cell? ⟨W.heap.size, 1, none⟩ = some (.int .i64 n.dst) ∧ w'.cell? ⟨W.heap.size, 2, none⟩ = some (.bool n.free)
      ∧ w'.cell? ⟨W.heap.size, 3, none⟩ = some (.int .u64 n.set.w0.toNat) ∧ w'.cell? ⟨W.heap.size, 4, none⟩ = some (.int .u64 n.set.w1.toNat) ∧ w'.cell? ⟨W.heap.size, 5, none⟩ = some (.int .u64 n.set.w2.toNat) ∧ w'.cell? ⟨W.heap.size, 6, none⟩ = some (.int .u64 n.set.w3.toNat) := by
    intro w' h
    refine ⟨h, (h.cell (p := ⟨b, 0, none⟩) (by simp; omega)).trans ((hB1.cell (p := ⟨b, 0, none⟩) hb').trans hc'), ?_, ?_, ?_, ?_, ?_, ?_, ?_⟩
    all_goals (refine (h.cell (by simpa using hsz)).trans ?_; rw [← hW1, cell_new]; rfl)
  have hcall := fun W' x (h : Below W1.heap.size W1 W') => hpc W' x trivial (below_next hW (below_next hB1 h))
  have hcnt := fun W' => count_ok n.set W'
  unfold vS at hcnt
  rw [hW1]
  clear hpc hd hc' hb' hW hb hW1
  cases h1 : inB st n.src with
  | false =>
    have hq1 : ∀ W', Below W1.heap.size W1 W' → Calls Tryz.prog k (#[.int .i64 n.src] ++ lb) W' (fun r w' => r = .returned (.bool false) ∧ Below W'.heap.size W' w') := fun W' h => by have := hcall W' n.src h; rwa [h1] at this
    have hm : false = mayE st n := by simp [mayE, h1]
    have HM := Lib.hid hm
    clear hcall h1 hcnt hm
    refine wp_region_all (by kernel_rfl) (fun w' => Below W1.heap.size W1 w')
      { tmps := #[.agg #[.int .i64 n.src, .int .i64 n.dst, .bool n.free, .int .u64 n.set.w0.toNat, .int .u64 n.set.w1.toNat, .int .u64 n.set.w2.toNat, .int .u64 n.set.w3.toNat], .pointer (some ⟨b, 0, none⟩), .pointer (some ⟨W.heap.size, 0, none⟩), .bool false, .func (.func k) #[] lb, .pointer (some ⟨W.heap.size, 0, none⟩), .int .i64 n.src, .bool false, .bool false, undef, undef, undef, undef, .bool false, .bool false, undef, undef, undef, undef, undef, undef, undef, .bool false], defers := [] }
      (by kernel_rfl) (by kernel_rfl) (by kernel_rfl) rfl (Below.refl _ _).drew ?hstep ?hend
    case hstep =>
      intro w' hS1
      obtain ⟨_, hs0, hs1, hs2, hs3, hs4, hs5, hs6, hs7⟩ := hS w' hS1
      clear hS
      refine ⟨?_, ?_, ?_, ?_, ?_, ?_, ?_, ?_, ?_, ?_, ?_, ?_, ?_, ?_, ?_, ?_, ?_, ?_, ?_, ?_, trivial⟩
      all_goals first
        | exact stepOk_no rfl rfl
        | (refine stepOk_yes rfl ?_
           intro a K hK
           go_simp
           exact hK _ hS1)
        | (refine stepOk_yes rfl ?_
           intro a K hK
           go_simp
           refine (hq1 _ hS1).mono ?_
           rintro e w2 ⟨rfl, hb1⟩
           exact hK _ (below_next hS1 hb1))
    case hend =>
      intro w' hS1
      go_wp2
      go_ret
      exact ⟨congrArg (fun z => Ending.returned (.bool z)) HM.out, below_next hB1 hS1⟩
  | true =>
    have hq1 : ∀ W', Below W1.heap.size W1 W' → Calls Tryz.prog k (#[.int .i64 n.src] ++ lb) W' (fun r w' => r = .returned (.bool true) ∧ Below W'.heap.size W' w') := fun W' h => by have := hcall W' n.src h; rwa [h1] at this
    cases h2 : inB st n.dst with
    | false =>
      have hq2 : ∀ W', Below W1.heap.size W1 W' → Calls Tryz.prog k (#[.int .i64 n.dst] ++ lb) W' (fun r w' => r = .returned (.bool false) ∧ Below W'.heap.size W' w') := fun W' h => by have := hcall W' n.dst h; rwa [h2] at this
      have hm : false = mayE st n := by simp [mayE, h2]
      have HM := Lib.hid hm
      clear hcall h1 h2 hcnt hm
      refine wp_region_all (by kernel_rfl) (fun w' => Below W1.heap.size W1 w')
        { tmps := #[.agg #[.int .i64 n.src, .int .i64 n.dst, .bool n.free, .int .u64 n.set.w0.toNat, .int .u64 n.set.w1.toNat, .int .u64 n.set.w2.toNat, .int .u64 n.set.w3.toNat], .pointer (some ⟨b, 0, none⟩), .pointer (some ⟨W.heap.size, 0, none⟩), .bool false, .func (.func k) #[] lb, .pointer (some ⟨W.heap.size, 0, none⟩), .int .i64 n.src, .bool true, .bool true, .func (.func k) #[] lb, .pointer (some ⟨W.heap.size, 1, none⟩), .int .i64 n.dst, .bool false, .bool false, .bool false, undef, undef, undef, undef, undef, undef, undef, .bool false], defers := [] }
        (by kernel_rfl) (by kernel_rfl) (by kernel_rfl) rfl (Below.refl _ _).drew ?hstep ?hend
      case hstep =>
        intro w' hS1
        obtain ⟨_, hs0, hs1, hs2, hs3, hs4, hs5, hs6, hs7⟩ := hS w' hS1
        clear hS
        refine ⟨?_, ?_, ?_, ?_, ?_, ?_, ?_, ?_, ?_, ?_, ?_, ?_, ?_, ?_, ?_, ?_, ?_, ?_, ?_, ?_, trivial⟩
        all_goals first
          | exact stepOk_no rfl rfl
          | (refine stepOk_yes rfl ?_
             intro a K hK
             go_simp
             exact hK _ hS1)
          | (refine stepOk_yes rfl ?_
             intro a K hK
             go_simp
             refine (hq1 _ hS1).mono ?_
             rintro e w2 ⟨rfl, hb1⟩
             exact hK _ (below_next hS1 hb1))
          | (refine stepOk_yes rfl ?_
             intro a K hK
             go_simp
             refine (hq2 _ hS1).mono ?_
             rintro e w2 ⟨rfl, hb1⟩
             exact hK _ (below_next hS1 hb1))
      case hend =>
        intro w' hS1
        go_wp2
        go_ret
        exact ⟨congrArg (fun z => Ending.returned (.bool z)) HM.out, below_next hB1 hS1⟩
    | true =>
      have hq2 : ∀ W', Below W1.heap.size W1 W' → Calls Tryz.prog k (#[.int .i64 n.dst] ++ lb) W' (fun r w' => r = .returned (.bool true) ∧ Below W'.heap.size W' w') := fun W' h => by have := hcall W' n.dst h; rwa [h2] at this
      obtain ⟨c, hcc⟩ : ∃ c, n.set.count = c := ⟨_, rfl⟩
      rw [hcc] at hcnt
      have hm : (n.free == ((c : Int) == 0)) = mayE st n := by
        have hx : ((c : Int) == 0) = decide (n.set.count = 0) := by rw [hcc, Bool.eq_iff_iff]; simp
        simp [mayE, h1, h2, hx]
      have HM := Lib.hid hm
      clear hcall h1 h2 hm hcc
      refine wp_region_all (by kernel_rfl) (fun w' => Below W1.heap.size W1 w')
        { tmps := #[.agg #[.int .i64 n.src, .int .i64 n.dst, .bool n.free, .int .u64 n.set.w0.toNat, .int .u64 n.set.w1.toNat, .int .u64 n.set.w2.toNat, .int .u64 n.set.w3.toNat], .pointer (some ⟨b, 0, none⟩), .pointer (some ⟨W.heap.size, 0, none⟩), .bool (n.free == ((c : Int) == 0)), .func (.func k) #[] lb, .pointer (some ⟨W.heap.size, 0, none⟩), .int .i64 n.src, .bool true, .bool true, .func (.func k) #[] lb, .pointer (some ⟨W.heap.size, 1, none⟩), .int .i64 n.dst, .bool true, .bool true, .bool true, .pointer (some ⟨W.heap.size, 2, none⟩), .bool n.free, .pointer (some ⟨W.heap.size, 3, none⟩), .agg #[.int .u64 n.set.w0.toNat, .int .u64 n.set.w1.toNat, .int .u64 n.set.w2.toNat, .int .u64 n.set.w3.toNat], .int .i64 c, .bool ((c : Int) == 0), .bool (n.free == ((c : Int) == 0)), .bool (n.free == ((c : Int) == 0))], defers := [] }
        (by kernel_rfl) (by kernel_rfl) (by kernel_rfl) rfl (Below.refl _ _).drew ?hstep ?hend
      case hstep =>
        intro w' hS1
        obtain ⟨_, hs0, hs1, hs2, hs3, hs4, hs5, hs6, hs7⟩ := hS w' hS1
        clear hS
        refine ⟨?_, ?_, ?_, ?_, ?_, ?_, ?_, ?_, ?_, ?_, ?_, ?_, ?_, ?_, ?_, ?_, ?_, ?_, ?_, ?_, trivial⟩
        all_goals first
          | exact stepOk_no rfl rfl
          | (refine stepOk_yes rfl ?_
             intro a K hK
             go_simp
             exact hK _ hS1)
          | (refine stepOk_yes rfl ?_
             intro a K hK
             go_simp
             refine (hq1 _ hS1).mono ?_
             rintro e w2 ⟨rfl, hb1⟩
             exact hK _ (below_next hS1 hb1))
          | (refine stepOk_yes rfl ?_
             intro a K hK
             go_simp
             refine (hq2 _ hS1).mono ?_
             rintro e w2 ⟨rfl, hb1⟩
             exact hK _ (below_next hS1 hb1))
          | (refine stepOk_yes rfl ?_
             intro a K hK
             go_simp
             refine (hcnt _).mono ?_
             rintro e w2 ⟨rfl, hb1⟩
             exact hK _ (below_next hS1 hb1))
      case hend =>
        intro w' hS1
        go_wp2
        go_ret
        exact ⟨congrArg (fun z => Ending.returned (.bool z)) HM.out, below_next hB1 hS1⟩
end Go.Proofs.YtakldmbbmefnbaaGreat
/- fa.Check: which automata may be. -/
namespace Go.Proofs.YtakldmbbmefnbaaGreat
open Go.RowKit

/-- OK, or ErrFa. -/
def faErr (ok : Bool) : Int := if ok then 0 else 260

structure Short (a : A) : Prop where
  s : a.start.length ≤ 1000000
  f : a.final.length ≤ 1000000
  e : a.edges.length ≤ 1000000

set_option maxRecDepth 100000 in
set_option maxHeartbeats 1000000 in
theorem check_ok (a : A) (vs vf ve : Value) (w : World) (h : FaAt w w.heap.size a vs vf ve) (hl : Short a) :
    Calls Tryz.prog 35 #[vA a vs vf ve] w (fun r w' => r = .returned (.int .i64 (faErr a.ok)) ∧ Below w.heap.size w w') := by
  obtain ⟨l1, l2, l3⟩ := hl
  have hs := h.s; have hf := h.f; have he := h.e
  clear h
  have hw1 := alloc1 w (.cells #[.int .i64 a.states, vs, vf, ve] 25)
  have hth := check1 a.states w.heap.size _ (by simp) (cell_new w #[.int .i64 a.states, vs, vf, ve] 25 0)
  obtain ⟨W1, hW1⟩ : ∃ W1, w.alloc (.cells #[.int .i64 a.states, vs, vf, ve] 25) = W1 := ⟨_, rfl⟩
  rw [hW1] at hw1 hth
  have hsz1 : W1.heap.size = w.heap.size + 1 := by rw [← hW1]; simp
  have hw2 := alloc1 W1 (.cells #[.func (.func 93) #[] #[.pointer (some ⟨w.heap.size, 0, none⟩)]] 83)
  have hfc := cell_new W1 #[.func (.func 93) #[] #[.pointer (some ⟨w.heap.size, 0, none⟩)]] 83 0
  have hmay := check2 a.states _ W1.heap.size _ (by simp) hfc (hth.below hw2)
  have hth2 := hth.below hw2
  rw [hsz1] at hmay
  have hcell : ∀ W, Below (W1.alloc (.cells #[.func (.func 93) #[] #[.pointer (some ⟨w.heap.size, 0, none⟩)]] 83)).heap.size (W1.alloc (.cells #[.func (.func 93) #[] #[.pointer (some ⟨w.heap.size, 0, none⟩)]] 83)) W →
      W.cell? ⟨w.heap.size, 1, none⟩ = some vs ∧ W.cell? ⟨w.heap.size, 2, none⟩ = some vf ∧ W.cell? ⟨w.heap.size, 3, none⟩ = some ve ∧ W.cell? ⟨w.heap.size + 1, 0, none⟩ = some (.func (.func 93) #[] #[.pointer (some ⟨w.heap.size, 0, none⟩)]) := by
    intro W hB
    have g : ∀ j, W.cell? ⟨w.heap.size, j, none⟩ = W1.cell? ⟨w.heap.size, j, none⟩ := fun j => ((below_next hw2 hB).cell (by simp [hsz1]))
    refine ⟨?_, ?_, ?_, ?_⟩
    · rw [g, ← hW1, cell_new]; rfl
    · rw [g, ← hW1, cell_new]; rfl
    · rw [g, ← hW1, cell_new]; rfl
    · rw [hB.cell (by simp [hsz1]), ← hsz1, cell_new]; rfl
  have hbw := below_next hw1 hw2
  subst hW1
  obtain ⟨W2, hW2⟩ : ∃ W2, (w.alloc (.cells #[.int .i64 a.states, vs, vf, ve] 25)).alloc (.cells #[.func (.func 93) #[] #[.pointer (some ⟨w.heap.size, 0, none⟩)]] 83) = W2 := ⟨_, rfl⟩
  rw [hW2] at hmay hth2 hcell hbw
  have hcs := fun W (hB : Below W2.heap.size W2 W) => all_int vs _ a.start (fun _ => True) _ W (hs.below (hbw.trans (hB.mono hbw.size)) (Nat.le_trans hbw.size hB.size)) (hth2.below hB) (fun _ _ => trivial) l1
  have hcf := fun W (hB : Below W2.heap.size W2 W) => all_int vf _ a.final (fun _ => True) _ W (hf.below (hbw.trans (hB.mono hbw.size)) (Nat.le_trans hbw.size hB.size)) (hth2.below hB) (fun _ _ => trivial) l2
  have hce := fun W (hB : Below W2.heap.size W2 W) => all_edge ve _ a.edges (fun _ => True) _ W (he.below (hbw.trans (hB.mono hbw.size)) (Nat.le_trans hbw.size hB.size)) (hmay.below hB) (fun _ _ => trivial) l3
  clear hth hmay hth2 hw1 hw2 hfc hsz1 hs hf he
  subst hW2
  unfold vA
  by_cases h0 : a.states < 0
  · have hm : (260 : Int) = faErr a.ok := by
      have : a.ok = false := by simp [A.ok]; omega
      rw [this]; rfl
    have HM := Lib.hid hm
    clear hm hcs hcf hce hcell
    go_enter Tryz.func35, Tryz.ntmps35
    go_wp2_with (first
      | (go_at_call 96; refine (hcs _ (Below.refl _ _)).mono ?_; rintro e w1 ⟨rfl, hb1⟩; have hc1 := hcell w1 hb1; obtain ⟨c0, c1, c2, c3⟩ := hc1)
      | (go_at_call 96; refine (hcf _ hb1).mono ?_; rintro e w2 ⟨rfl, hb2⟩; have hb3 := below_next hb1 hb2; have hc1 := hcell w2 hb3; obtain ⟨d0, d1, d2, d3⟩ := hc1)
      | (go_at_call 97; refine (hce _ hb3).mono ?_; rintro e w4 ⟨rfl, hb4⟩; have hb5 := below_next hb3 hb4))
    go_ret
    exact ⟨congrArg (fun z => Ending.returned (.int .i64 z)) HM.out, hbw⟩
  · have hz : decide (0 ≤ a.states) = true := by simp; omega
    cases h1 : a.start.all (inB a.states) with
    | false =>
      have hm : (260 : Int) = faErr a.ok := by simp [A.ok, h1, faErr]
      have HM := Lib.hid hm
      rw [h1] at hcs
      clear hm h1 hz hcf hce
      go_enter Tryz.func35, Tryz.ntmps35
      go_wp2_with (first
        | (go_at_call 96; refine (hcs _ (Below.refl _ _)).mono ?_; rintro e w1 ⟨rfl, hb1⟩; have hc1 := hcell w1 hb1; obtain ⟨c0, c1, c2, c3⟩ := hc1)
        | (go_at_call 96; refine (hcf _ hb1).mono ?_; rintro e w2 ⟨rfl, hb2⟩; have hb3 := below_next hb1 hb2; have hc1 := hcell w2 hb3; obtain ⟨d0, d1, d2, d3⟩ := hc1)
        | (go_at_call 97; refine (hce _ hb3).mono ?_; rintro e w4 ⟨rfl, hb4⟩; have hb5 := below_next hb3 hb4))
      go_ret
      exact ⟨congrArg (fun z => Ending.returned (.int .i64 z)) HM.out, below_next hbw hb1⟩
    | true =>
      rw [h1] at hcs
      cases h2 : a.final.all (inB a.states) with
      | false =>
        have hm : (260 : Int) = faErr a.ok := by simp [A.ok, h2, faErr]
        have HM := Lib.hid hm
        rw [h2] at hcf
        clear hm h1 h2 hz hce
        go_enter Tryz.func35, Tryz.ntmps35
        go_wp2_with (first
          | (go_at_call 96; refine (hcs _ (Below.refl _ _)).mono ?_; rintro e w1 ⟨rfl, hb1⟩; have hc1 := hcell w1 hb1; obtain ⟨c0, c1, c2, c3⟩ := hc1)
          | (go_at_call 96; refine (hcf _ hb1).mono ?_; rintro e w2 ⟨rfl, hb2⟩; have hb3 := below_next hb1 hb2; have hc1 := hcell w2 hb3; obtain ⟨d0, d1, d2, d3⟩ := hc1)
          | (go_at_call 97; refine (hce _ hb3).mono ?_; rintro e w4 ⟨rfl, hb4⟩; have hb5 := below_next hb3 hb4))
        go_ret
        exact ⟨congrArg (fun z => Ending.returned (.int .i64 z)) HM.out, below_next hbw hb3⟩
      | true =>
        rw [h2] at hcf
        cases h3 : a.edges.all (mayE a.states) with
        | false =>
          have hm : (260 : Int) = faErr a.ok := by simp [A.ok, h3, faErr]
          have HM := Lib.hid hm
          rw [h3] at hce
          clear hm h1 h2 h3 hz
          go_enter Tryz.func35, Tryz.ntmps35
          go_wp2_with (first
            | (go_at_call 96; refine (hcs _ (Below.refl _ _)).mono ?_; rintro e w1 ⟨rfl, hb1⟩; have hc1 := hcell w1 hb1; obtain ⟨c0, c1, c2, c3⟩ := hc1)
            | (go_at_call 96; refine (hcf _ hb1).mono ?_; rintro e w2 ⟨rfl, hb2⟩; have hb3 := below_next hb1 hb2; have hc1 := hcell w2 hb3; obtain ⟨d0, d1, d2, d3⟩ := hc1)
            | (go_at_call 97; refine (hce _ hb3).mono ?_; rintro e w4 ⟨rfl, hb4⟩; have hb5 := below_next hb3 hb4))
          go_ret
          exact ⟨congrArg (fun z => Ending.returned (.int .i64 z)) HM.out, below_next hbw hb5⟩
        | true =>
          have hm : (0 : Int) = faErr a.ok := by simp [A.ok, h1, h2, h3, faErr]; omega
          have HM := Lib.hid hm
          rw [h3] at hce
          clear hm h1 h2 h3 hz
          go_enter Tryz.func35, Tryz.ntmps35
          go_wp2_with (first
            | (go_at_call 96; refine (hcs _ (Below.refl _ _)).mono ?_; rintro e w1 ⟨rfl, hb1⟩; have hc1 := hcell w1 hb1; obtain ⟨c0, c1, c2, c3⟩ := hc1)
            | (go_at_call 96; refine (hcf _ hb1).mono ?_; rintro e w2 ⟨rfl, hb2⟩; have hb3 := below_next hb1 hb2; have hc1 := hcell w2 hb3; obtain ⟨d0, d1, d2, d3⟩ := hc1)
            | (go_at_call 97; refine (hce _ hb3).mono ?_; rintro e w4 ⟨rfl, hb4⟩; have hb5 := below_next hb3 hb4))
          go_ret
          exact ⟨congrArg (fun z => Ending.returned (.int .i64 z)) HM.out, below_next hbw hb5⟩
end Go.Proofs.YtakldmbbmefnbaaGreat
/- walk: need, the predicates on edges, and the iterator over edges. -/
namespace Go.Proofs.YtakldmbbmefnbaaGreat
open Go.RowKit

/-- A walker: a pointer to an automaton. -/
structure Wk (w : World) (b : Nat) (a : A) (vs vf ve : Value) : Prop where
  lt : b < w.heap.size
  c0 : w.cell? ⟨b, 0, none⟩ = some (.int .i64 a.states)
  c1 : w.cell? ⟨b, 1, none⟩ = some vs
  c2 : w.cell? ⟨b, 2, none⟩ = some vf
  c3 : w.cell? ⟨b, 3, none⟩ = some ve
  fa : FaAt w w.heap.size a vs vf ve

theorem FaAt.below {w w' : World} {B B' : Nat} {a : A} {vs vf ve : Value} (h : FaAt w B a vs vf ve) (hb : Below B w w') (hB : B ≤ B') : FaAt w' B' a vs vf ve := ⟨h.s.below hb hB, h.f.below hb hB, h.e.below hb hB⟩
theorem Wk.below {w w' : World} {b : Nat} {a : A} {vs vf ve : Value} (h : Wk w b a vs vf ve) (hb : Below w.heap.size w w') : Wk w' b a vs vf ve :=
  ⟨Nat.lt_of_lt_of_le h.lt hb.size, (hb.cell h.lt).trans h.c0, (hb.cell h.lt).trans h.c1, (hb.cell h.lt).trans h.c2, (hb.cell h.lt).trans h.c3, h.fa.below hb hb.size⟩

abbrev pw (b : Nat) : Value := .pointer (some ⟨b, 0, none⟩)

theorem need_ok (e : Int) (w : World) : Calls Tryz.prog 124 #[.bool true, .int .i64 e] w (fun r w' => r = .returned (.tuple #[]) ∧ w' = w) := by
  go_enter Tryz.func124, Tryz.ntmps124
  go_wp2
  go_end0
  exact ⟨rfl, rfl⟩
/-- The panic that an error of api's leaves by. -/
def errPanic (e : Int) : List PanicEntry := [{ v := .iface 30 (.int .i64 e), recovered := false }]
theorem need_no (e : Int) (w : World) : Calls Tryz.prog 124 #[.bool false, .int .i64 e] w (fun r w' => r = .panicked (errPanic e) ∧ w' = w) := by
  go_enter Tryz.func124, Tryz.ntmps124
  go_wp2
  exact ⟨rfl, rfl, rfl⟩

theorem free_pred (w : World) : Pred1 Tryz.prog vE (.func (.func 125) #[] #[]) (fun _ => True) (fun e => e.free) w := by
  refine ⟨_, _, rfl, Tryz.call125, fun W e _ _ => ?_⟩
  unfold vE
  go_enter Tryz.func125, Tryz.ntmps125
  go_wp2
  go_ret
  exact ⟨rfl, alloc1 _ _⟩
theorem each_pred (w : World) : Pred1 Tryz.prog vE (.func (.func 69) #[] #[]) (fun _ => True) (fun _ => true) w := by
  refine ⟨_, _, rfl, Tryz.call69, fun W e _ _ => ?_⟩
  unfold vE
  go_enter Tryz.func69, Tryz.ntmps69
  go_wp2
  go_ret
  exact ⟨rfl, by first | exact Below.refl _ _ | exact alloc1 _ _⟩

theorem edges_ok (b g : Nat) (lb : Array Value) (w : World) :
    Calls Tryz.prog 126 #[pw b, .func (.func g) #[] lb] w (fun r w' => r = .returned (.func (.func 162) #[] #[pw w.heap.size, pw (w.heap.size + 1)]) ∧
      w' = (w.alloc (.cells #[pw b] 91)).alloc (.cells #[.func (.func g) #[] lb] 95)) := by
  go_enter Tryz.func126, Tryz.ntmps126
  go_wp2
  go_ret
  exact ⟨rfl, rfl⟩

def fromTo (e : E) : Array Value := #[.int .i64 e.src, .int .i64 e.dst]

theorem filter_take {α : Type} (p : α → Bool) (xs : List α) {k : Nat} (hk : k < xs.length) : ((xs.take (k + 1)).filter p).length = ((xs.take k).filter p).length + (if p xs[k] then 1 else 0) := by
  rw [List.take_succ_eq_append_getElem hk, List.filter_append, List.length_append]
  cases h : p xs[k] <;> simp [h]
theorem filter_at {α : Type} (p : α → Bool) (xs : List α) {k : Nat} (hk : k < xs.length) (hp : p xs[k] = true) : ((xs.take k).filter p).length < (xs.filter p).length ∧ ∀ h, (xs.filter p)[((xs.take k).filter p).length]'h = xs[k] := by
  have h1 : xs = xs.take k ++ xs[k] :: xs.drop (k + 1) := by rw [← List.drop_eq_getElem_cons hk, List.take_append_drop]
  have h2 : xs.filter p = (xs.take k).filter p ++ xs[k] :: (xs.drop (k + 1)).filter p := by
    conv => lhs; rw [h1]
    rw [List.filter_append, List.filter_cons, if_pos hp]
  refine ⟨by rw [h2]; simp, fun h => ?_⟩
  simp only [h2]
  rw [List.getElem_append_right (Nat.le_refl _)]
  simp

set_option maxHeartbeats 1000000 in
theorem edges_iter (wb b1 b2 : Nat) (fv : Value) (a : A) (vs vf ve : Value) (p : E → Bool) (w0 : World) (hk : Wk w0 wb a vs vf ve) (hp : Pred1 Tryz.prog vE fv (fun _ => True) p w0) (hn : a.edges.length ≤ 1000000) :
    IterAt Tryz.prog 162 #[pw b1, pw b2] ((a.edges.filter p).map fromTo) (fun W => Below w0.heap.size w0 W ∧ W.cell? ⟨b1, 0, none⟩ = some (pw wb) ∧ W.cell? ⟨b2, 0, none⟩ = some fv) := by
  intro l I J w hI hJ hD hY h0
  obtain ⟨k0, lb, rfl, hen, hpc⟩ := id hp
  obtain ⟨A0, c, rfl, hr⟩ := id hk.fa.e
  have hY' : ∀ k (h : k < (a.edges.filter p).length) W, I k W → YieldAt Fence.wide 0 Tryz.prog l #[.int .i64 (a.edges.filter p)[k].src, .int .i64 (a.edges.filter p)[k].dst] W fun e W' => (e = .returned (.bool true) ∧ I (k + 1) W') ∨ (e = .returned (.bool false) ∧ J W') := by
    intro k h W hi
    have := hY k (by simpa using h) W hi
    rw [List.getElem_map] at this
    exact this
  rw [List.length_map]
  clear hY
  obtain ⟨hB0, hb1, hb2⟩ := hD 0 w h0
  have c3 := (hB0.cell (p := ⟨wb, 3, none⟩) hk.lt).trans hk.c3
  go_enter Tryz.func162, Tryz.ntmps162
  go_step3
  have hwf : ∀ f, Fence.wide.fn f := fun _ => trivial
  have hwd : Fence.wide.depth = none := rfl
  refine (wpIn_wide (n := 0)).1 ?_
  gi_wp2
  refine wpIn_label ?_
  gi_wp2
  clear hb1 hb2 c3 hB0
  gi_loopw [12] (fun i wr => ∃ k : Nat, k ≤ a.edges.length ∧ i = .int .i64 k ∧ I ((a.edges.take k).filter p).length wr) (fun i _ => a.edges.length - (intOf i).toNat)
  case atStart => exact ⟨0, Nat.zero_le _, rfl, h0⟩
  case round =>
    obtain ⟨k, hkl, rfl, hIk⟩ := hrel
    by_cases hlt : k < a.edges.length
    · obtain ⟨hB, hb1, hb2⟩ := hD _ wr hIk
      obtain ⟨b, o, rfl, hb, hc⟩ := hr (by omega)
      obtain ⟨hcell0, hcell1, hcell2, hcell3, hcell4, hcell5, hcell6⟩ := cell7 hc hlt
      replace hcell0 := (hB.cell (p := ⟨b, o + k * 7, none⟩) hb).trans hcell0
      replace hcell1 := (hB.cell (p := ⟨b, o + k * 7 + 1, none⟩) hb).trans hcell1
      replace hcell2 := (hB.cell (p := ⟨b, o + k * 7 + 2, none⟩) hb).trans hcell2
      replace hcell3 := (hB.cell (p := ⟨b, o + k * 7 + 3, none⟩) hb).trans hcell3
      replace hcell4 := (hB.cell (p := ⟨b, o + k * 7 + 4, none⟩) hb).trans hcell4
      replace hcell5 := (hB.cell (p := ⟨b, o + k * 7 + 5, none⟩) hb).trans hcell5
      replace hcell6 := (hB.cell (p := ⟨b, o + k * 7 + 6, none⟩) hb).trans hcell6
      have hft := filter_take p a.edges hlt
      have hfa := filter_at p a.edges hlt
      obtain ⟨W1, hW1⟩ : ∃ W1, wr.alloc (.cells #[.int .i64 a.edges[k].src, .int .i64 a.edges[k].dst, .bool a.edges[k].free, .int .u64 a.edges[k].set.w0.toNat, .int .u64 a.edges[k].set.w1.toNat, .int .u64 a.edges[k].set.w2.toNat, .int .u64 a.edges[k].set.w3.toNat] 73) = W1 := ⟨_, rfl⟩
      have hBW : Below wr.heap.size wr W1 := hW1 ▸ alloc1 wr _
      have hn1 : ∀ j, W1.cell? ⟨wr.heap.size, j, none⟩ = _ := fun j => hW1 ▸ cell_new wr _ _ j
      have e0 := hn1 0; have e1 := hn1 1; have e2 := hn1 2; have e3 := hn1 3; have e4 := hn1 4; have e5 := hn1 5; have e6 := hn1 6
      simp only [List.getElem?_toArray, List.getElem?_cons_zero, List.getElem?_cons_succ] at e0 e1 e2 e3 e4 e5 e6
      have lt1 := World.block_lt_of_cell? wr ⟨b1, 0, none⟩ hb1
      have lt2 := World.block_lt_of_cell? wr ⟨b2, 0, none⟩ hb2
      have g2 := (hBW.cell (p := ⟨b2, 0, none⟩) lt2).trans hb2
      have hI1 := hI _ _ _ hIk hBW
      have hcall := hpc W1 a.edges[k] trivial (below_next hB hBW)
      clear hr hc hp hk hpc hb1 hb2 hn1 lt1 lt2 hb hD hB hIk
      cases hpx : p a.edges[k] with
      | false =>
        rw [hpx] at hcall hft
        have HF := Lib.hid hft
        clear hY' hfa hft hpx
        gi_wp2
        refine (callsIn_wide.2 hcall).mono ?_
        rintro e w2 ⟨rfl, hb2⟩
        gi_wp2
        go_roundw
        case rel => exact ⟨k + 1, by omega, by go_num, by rw [HF.out]; exact hI _ _ _ hI1 hb2⟩
        case measure => simp [intOf]; omega
      | true =>
        rw [hpx] at hcall hft
        obtain ⟨hlf, hfe⟩ := hfa hpx
        have hfe := hfe hlf
        have HF := Lib.hid hft
        have hY1 := fun W => hY' _ hlf W
        rw [hfe] at hY1
        clear hY' hfe hft hpx hfa
        gi_wp2
        refine (callsIn_wide.2 hcall).mono ?_
        rintro e w2 ⟨rfl, hb2⟩
        obtain ⟨fn, tmps, assign, body, hy, hR⟩ := hY1 w2 (hI _ _ _ hI1 hb2)
        have s0 := World.block_lt_of_cell? _ _ e0
        have f0 := (hb2.cell (p := ⟨wr.heap.size, 0, none⟩) s0).trans e0
        have f1 := (hb2.cell (p := ⟨wr.heap.size, 1, none⟩) s0).trans e1
        clear hY1 e0 e1 e2 e3 e4 e5 e6 hW1 g2
        gi_wp2
        refine hR.mono ?_
        rintro e w3 (⟨rfl, hI3⟩ | ⟨rfl, hJ3⟩)
        · gi_wp2
          go_roundw
          case rel => exact ⟨k + 1, by omega, by go_num, by rw [HF.out]; exact hI3⟩
          case measure => simp [intOf]; omega
        · gi_wp2
          rw [Exit.noGoto_normal]
          go_end0
          exact ⟨⟨_, rfl⟩, .inr hJ3⟩
    · have : k = a.edges.length := by omega
      subst this
      rw [List.take_length] at hIk
      clear hr hp hk
      gi_wp2
      rw [Exit.noGoto_normal]
      go_end0
      exact ⟨⟨_, rfl⟩, .inl hIk⟩
end Go.Proofs.YtakldmbbmefnbaaGreat
/- slices.Clone: a row of its own. -/
namespace Go.Proofs.YtakldmbbmefnbaaGreat
open Go.RowKit

theorem info_int : (Tryz.prog.info? 3).map (fun i => (i.zero, i.size, i.bytes)) = some (some (.int .i64 0), 1, 8) := by kernel_rfl

theorem clone_int (v : Value) (xs : List Int) (w : World) (h : Sl encI 1 w w.heap.size v xs) (hn : xs.length ≤ 1000000) :
    Calls Tryz.prog 11 #[v] w (fun r w' => ∃ v', r = .returned v' ∧ Own encI 1 3 w' w.heap.size v' xs ∧ Below w.heap.size w w') := by
  obtain ⟨i0, hi, hz0, hz1, hz2⟩ := info_parts info_int
  obtain ⟨A, c, rfl, hr⟩ := id h
  have hnil := fun (w : World) (A : Option Addr) (n c : Nat) => Lib.run_eql_slice_nil (P := Tryz.prog) w _ _ A n c 0 0 Tryz.underlying22
  go_enter Tryz.func11, Tryz.ntmps11
  cases A with
  | none =>
    have hx : xs = [] := by
      rcases Nat.eq_zero_or_pos xs.length with h0 | h0
      · exact List.eq_nil_of_length_eq_zero h0
      · obtain ⟨_, _, h, _⟩ := hr h0; cases h
    subst hx
    go_wp2
    go_ret
    exact ⟨_, rfl, Own.nil none, Below.refl _ _⟩
  | some ad =>
    go_wp2_with (at_builtin; refine wpList_append_my _ rfl (.tmp 5) (.tmp 6) 22 rfl encI_len encI_one 3 i0 _ Tryz.underlying22 hi hz0 hz1 hz2 rfl (by decide) (base := w.heap.size) rfl (xs := []) (Own.nil _) rfl (h.below ((Below.refl _ w).alloc (Nat.le_refl _) _) (Nat.le_refl _)) (by simp; omega) (by simp; omega) (by simp) ?_; intro v1 w1 hown1 hg1 hb1 hl1)
    go_ret
    exact ⟨_, rfl, by simpa using hown1, ((Below.refl _ w).alloc (Nat.le_refl _) _).trans hl1⟩
theorem info_edge : (Tryz.prog.info? 73).map (fun i => (i.zero, i.size, i.bytes)) = some (some ((.agg #[.int .i64 0, .int .i64 0, .bool false, .int .u64 0, .int .u64 0, .int .u64 0, .int .u64 0])), 7, 56) := by kernel_rfl

theorem clone_edge (v : Value) (xs : List E) (w : World) (h : Sl encE 7 w w.heap.size v xs) (hn : xs.length ≤ 1000000) :
    Calls Tryz.prog 49 #[v] w (fun r w' => ∃ v', r = .returned v' ∧ Own encE 7 73 w' w.heap.size v' xs ∧ Below w.heap.size w w') := by
  obtain ⟨i0, hi, hz0, hz1, hz2⟩ := info_parts info_edge
  obtain ⟨A, c, rfl, hr⟩ := id h
  have hnil := fun (w : World) (A : Option Addr) (n c : Nat) => Lib.run_eql_slice_nil (P := Tryz.prog) w _ _ A n c 0 0 Tryz.underlying23
  go_enter Tryz.func49, Tryz.ntmps49
  cases A with
  | none =>
    have hx : xs = [] := by
      rcases Nat.eq_zero_or_pos xs.length with h0 | h0
      · exact List.eq_nil_of_length_eq_zero h0
      · obtain ⟨_, _, h, _⟩ := hr h0; cases h
    subst hx
    go_wp2
    go_ret
    exact ⟨_, rfl, Own.nil none, Below.refl _ _⟩
  | some ad =>
    go_wp2_with (at_builtin; refine wpList_append_my _ rfl (.tmp 5) (.tmp 6) 23 rfl encE_len encE_one 73 i0 _ Tryz.underlying23 hi hz0 hz1 hz2 rfl (by decide) (base := w.heap.size) rfl (xs := []) (Own.nil _) rfl (h.below ((Below.refl _ w).alloc (Nat.le_refl _) _) (Nat.le_refl _)) (by simp; omega) (by simp; omega) (by simp) ?_; intro v1 w1 hown1 hg1 hb1 hl1)
    go_ret
    exact ⟨_, rfl, by simpa using hown1, ((Below.refl _ w).alloc (Nat.le_refl _) _).trans hl1⟩
end Go.Proofs.YtakldmbbmefnbaaGreat
/- walk: the closure by which states are met. -/
namespace Go.Proofs.YtakldmbbmefnbaaGreat
open Go.RowKit

def meet (ws : List Int) (s : Int) : List Int := if ws.contains s then ws else ws ++ [s]

/-- Which of the first n numbers are among ws. -/
def marks (n : Nat) (ws : List Int) : List Bool := (List.range n).map fun (i : Nat) => ws.contains (i : Int)

theorem marks_len (n : Nat) (ws : List Int) : (marks n ws).length = n := by simp [marks]
theorem marks_get {n i : Nat} (ws : List Int) (h : i < n) : (marks n ws)[i]? = some (ws.contains (i : Int)) := by simp [marks, h]
theorem marks_set {n i : Nat} (ws : List Int) (h : i < n) (hc : ws.contains (i : Int) = false) : (marks n ws).set i true = marks n (meet ws i) := by
  apply List.ext_getElem?
  intro j
  rw [List.getElem?_set]
  by_cases hj : j < n
  · by_cases e : i = j
    · subst e
      rw [if_pos rfl, if_pos (by rw [marks_len]; exact h), marks_get _ h]
      unfold meet
      rw [if_neg (by rw [hc]; decide)]
      simp
    · rw [if_neg e, marks_get _ hj, marks_get _ hj]
      unfold meet
      rw [if_neg (by rw [hc]; decide)]
      have : ¬ ((j : Int) = (i : Int)) := by omega
      simp [this]
  · rw [List.getElem?_eq_none (by rw [marks_len]; omega), if_neg (fun e : i = j => hj (by omega)), List.getElem?_eq_none (by rw [marks_len]; omega)]

/-- The two rows that the closure writes: bi, bw are the blocks of the variables, gin the marks' block. -/
structure Met (w : World) (n bi gin bw base : Nat) (ws : List Int) (vw : Value) : Prop where
  i : w.heap[bi]? = some (.cells #[.slice (some ⟨gin, 0, none⟩) n n] 87 (0, 0))
  g : w.heap[gin]? = some (.cells ((marks n ws).map Value.bool).toArray 4 (0, 0))
  v : w.heap[bw]? = some (.cells #[vw] 22 (0, 0))
  o : Own encI 1 3 w base vw ws

theorem cell_at {w : World} {b : Nat} {cs : Array Value} {t : TypeId} (h : w.heap[b]? = some (.cells cs t (0, 0))) (i : Nat) : w.cell? ⟨b, i, none⟩ = cs[i]? := by
  unfold World.cell?; rw [h]; rfl
theorem free_at {w : World} {b : Nat} {cs : Array Value} {t : TypeId} (h : w.heap[b]? = some (.cells cs t (0, 0))) (i : Nat) : w.frozen? ⟨b, i, none⟩ = false := by
  unfold World.frozen?; rw [h]; simp
theorem heap_set {w : World} {b : Nat} {cs : Array Value} {t : TypeId} (h : w.heap[b]? = some (.cells cs t (0, 0))) (i : Nat) (u : Value) : (w.setCell ⟨b, i, none⟩ u).heap[b]? = some (.cells (cs.setIfInBounds i u) t (0, 0)) := by
  simp [World.setCell, Array.getElem?_modify, h]
theorem ne_type {w : World} {b b' : Nat} {cs cs' : Array Value} {t t' : TypeId} {z z' : Nat × Nat} (h : w.heap[b]? = some (.cells cs t z)) (h' : w.heap[b']? = some (.cells cs' t' z')) (hne : t ≠ t') : b ≠ b' := by
  rintro rfl
  rw [h] at h'
  injection h' with h'
  injection h' with _ ht _
  exact hne ht
theorem own_ne {α : Type} {enc : α → List Value} {size : Nat} {e t : TypeId} {w : World} {base b : Nat} {v : Value} {xs : List α} {cs : Array Value} {z : Nat × Nat} (h : Own enc size e w base v xs) (hb : w.heap[b]? = some (.cells cs t z)) (hne : e ≠ t) : blk v ≠ some b := by
  rcases h with ⟨rfl, A, rfl⟩ | ⟨b', cap, cur, rfl, _, hp, _, _, hg, _⟩
  · cases A <;> simp [blk]
  · obtain ⟨m, rfl⟩ : ∃ m, cap = m + 1 := ⟨cap - 1, by omega⟩
    intro he
    simp [blk] at he
    exact ne_type hg hb hne he

theorem Own.setCell {α : Type} {enc : α → List Value} {size : Nat} {e : TypeId} {w : World} {base : Nat} {v : Value} {xs : List α} (h : Own enc size e w base v xs) {p : Addr} (hp : blk v ≠ some p.block) (u : Value) : Own enc size e (w.setCell p u) base v xs :=
  h.kept (row := some p.block) ⟨rfl, rfl, rfl, by simp [World.setCell], fun k _ hne => Below.heap_setCell w p u k (fun e => hne (by rw [e]))⟩ (fun k hk e => hp (by rw [hk, e]))

theorem meet_seen (n bi gin bw base : Nat) (ws : List Int) (vw : Value) (s : Nat) (hs : s < n) (hc : ws.contains (s : Int) = true) (w : World) (h : Met w n bi gin bw base ws vw) :
    Calls Tryz.prog 127 #[.int .i64 s, pw bi, pw bw] w (fun r w' => r = .returned (.tuple #[]) ∧ w' = w) := by
  have c1 := cell_at h.i 0
  have c2 : w.cell? ⟨gin, s, none⟩ = some (.bool true) := by rw [cell_at h.g]; simp [marks_get ws hs, -List.contains_eq_mem]; exact hc
  simp only [List.getElem?_toArray, List.getElem?_cons_zero] at c1
  clear hc h
  go_enter Tryz.func127, Tryz.ntmps127
  go_wp2
  go_end0
  exact ⟨rfl, rfl⟩
theorem meet_new (n bi gin bw base : Nat) (ws : List Int) (vw : Value) (s : Nat) (hs : s < n) (hwl : ws.length ≤ 1000000) (hc : ws.contains (s : Int) = false) (w : World) (h : Met w n bi gin bw base ws vw) (hbase : base ≤ w.heap.size) :
    Calls Tryz.prog 127 #[.int .i64 s, pw bi, pw bw] w (fun r w' => r = .returned (.tuple #[]) ∧ ∃ vw', Met w' n bi gin bw base (meet ws s) vw' ∧ But (fun k => k = gin ∨ k = bw ∨ base ≤ k) w w') := by
  obtain ⟨i0, hi, hz0, hz1, hz2⟩ := info_parts info_int
  have c1 := cell_at h.i 0
  have c2 : w.cell? ⟨gin, s, none⟩ = some (.bool false) := by rw [cell_at h.g]; simp [marks_get ws hs, -List.contains_eq_mem]; exact hc
  have c3 := free_at h.g s
  simp only [List.getElem?_toArray, List.getElem?_cons_zero] at c1
  obtain ⟨W1, hW1⟩ : ∃ W1, w.setCell ⟨gin, s, none⟩ (.bool true) = W1 := ⟨_, rfl⟩
  have n1 := ne_type h.i h.g (by decide)
  have n2 := ne_type h.v h.g (by decide)
  have n3 := ne_type h.i h.v (by decide)
  have k1 : W1.heap[bi]? = _ := hW1 ▸ (Below.heap_setCell w ⟨gin, s, none⟩ (.bool true) bi n1).trans h.i
  have k2 : W1.heap[bw]? = _ := hW1 ▸ (Below.heap_setCell w ⟨gin, s, none⟩ (.bool true) bw n2).trans h.v
  have k3 : W1.heap[gin]? = _ := hW1 ▸ heap_set h.g s (.bool true)
  have k4 : Own encI 1 3 W1 base vw ws := hW1 ▸ h.o.setCell (own_ne h.o h.g (by decide)) _
  have hB1 : But (fun k => k = gin ∨ k = bw ∨ base ≤ k) w W1 := hW1 ▸ (But.refl _ w).setCell (fun _ => .inl rfl) _
  have hz1' : W1.heap.size = w.heap.size := by rw [← hW1]; simp [World.setCell]
  have d1 := cell_at k2 0
  have d2 := free_at k2 0
  simp only [List.getElem?_toArray, List.getElem?_cons_zero] at d1
  have hset : (((marks n ws).map Value.bool).toArray.setIfInBounds s (.bool true)) = ((marks n (meet ws s)).map Value.bool).toArray := by
    rw [← marks_set ws hs hc]
    simp
  rw [hset] at k3
  have hmeet : ws ++ [(s : Int)] = meet ws s := by unfold meet; rw [if_neg (by rw [hc]; decide)]
  have keep : ∀ w1, (W1.alloc (.cells #[.int .i64 (s : Int)] 3)).grownBy w1 (blk vw) →
      w1.heap[bw]? = some (.cells #[vw] 22 (0, 0)) ∧ w1.heap[bi]? = some (.cells #[.slice (some ⟨gin, 0, none⟩) n n] 87 (0, 0)) ∧ w1.heap[gin]? = some (.cells ((marks n (meet ws s)).map Value.bool).toArray 4 (0, 0)) := by
    intro w1 hg
    have old : ∀ b o, W1.heap[b]? = some o → blk vw ≠ some b → w1.heap[b]? = some o := fun b o ho hne => by
      have hlt := (Array.getElem?_eq_some_iff.1 ho).1
      rw [hg.block b (by simp; omega) (fun e => hne e.symm), Below.heap_alloc _ _ _ hlt]
      exact ho
    exact ⟨old _ _ k2 (own_ne k4 k2 (by decide)), old _ _ k1 (own_ne k4 k1 (by decide)), old _ _ k3 (own_ne k4 k3 (by decide))⟩
  have hbw : bw < W1.heap.size := (Array.getElem?_eq_some_iff.1 k2).1
  have hne2 := own_ne k4 k2 (by decide)
  have hlt4 := k4.lt
  have hsz : base ≤ W1.heap.size := by omega
  have hbyt : (4 * (ws.length + 1) + 4096) * 8 ≤ 140737488355328 := by omega
  have hwl2 : ws.length + 1 ≤ 4611686018427387904 := by omega
  have HM := Lib.hid hmeet
  clear hset hc h hmeet k1 k2 k3 hz1' n1 n2 n3 hbase hwl
  go_enter Tryz.func127, Tryz.ntmps127
  go_wp2_with (at_builtin; refine wpList_append_my _ rfl (.tmp 12) (.tmp 14) 22 rfl encI_len encI_one 3 i0 _ Tryz.underlying22 hi hz0 hz1 hz2 rfl (by decide) (base := base) rfl (xs := ws) (k4.below (alloc1 W1 _)) rfl (ys := [(s : Int)]) (Sl_one (enc := encI) (size := 1) W1 (s : Int) _ _) hbyt hwl2 (by simp; omega) ?_; intro v1 w1 hown1 hg1 hb1 hl1; obtain ⟨A1, cc1, rfl, hle1⟩ := hown1.form; obtain ⟨q1, q2, q3⟩ := keep w1 hg1; have r1 := cell_at q1 0; have r2 := free_at q1 0; simp only [List.getElem?_toArray, List.getElem?_cons_zero] at r1)
  go_end0
  have hgs := hg1.size
  simp at hgs
  refine ⟨rfl, _, ⟨?_, ?_, heap_set q1 0 _, ?_⟩, ?_⟩
  · rw [Below.heap_setCell _ _ _ _ (ne_type q2 q1 (by decide))]; exact q2
  · rw [Below.heap_setCell _ _ _ _ (ne_type q3 q1 (by decide))]; exact q3
  · rw [← HM.out]
    have hne := own_ne (t := 22) hown1 q1 (by decide)
    have hh := hown1.setCell (p := ⟨bw, 0, none⟩) hne (.slice A1 (ws ++ [(s : Int)]).length cc1)
    simpa using hh
  · refine But.setCell ?_ (fun _ => .inr (.inl rfl)) _
    refine (hB1.alloc _).trans (But.of_grown hg1) (fun k hk e => ?_)
    exact .inr (.inr (hlt4 k e).1)
end Go.Proofs.YtakldmbbmefnbaaGreat
/- A region whose order is open, with one operation whose value hangs on the world (an append, say), and a last one that stores. -/
namespace Go.Proofs.YtakldmbbmefnbaaGreat
open Go.RowKit

/-- What is no 'pre' and not e comes behind e. -/
def preOk (ops : Array Oper) (e : Nat) (pre : Nat → Bool) : Bool :=
  (List.range ops.size).all fun i => i == e || pre i || (match ops[i]? with
    | none => true
    | some o => o.after.any fun x => Region.binds .any x && (x.on == e || !pre x.on))

/-- The last operation comes behind all others. -/
def lastOk (ops : Array Oper) : Bool :=
  match ops[ops.size - 1]? with
  | none => false
  | some o => (List.range (ops.size - 1)).all fun j => o.after.any fun x => x.on == j && Region.binds .any x

def stepIn (F : Fence) (n : Nat) (P : Program) (ops : Array Oper) (Q : Exit → Act → World → Prop) (S : World → Prop) (fin : Act) (o : Oper) (w : World) : Prop :=
  if Region.wanted o (yielded ops fin.tmps) then (∀ f, o.about P w fin.eval = some f → F.fn f) ∧ ∀ (a : Act) (K : Act → World → Prop), (∀ w', S w' → K (a.put o.dst (valOf fin o)) w') → o.uponIn F n P a K Q ((o.semAt F.round fin.eval).run P w)
  else (∀ f, o.about P w fin.eval = some f → F.fn f) ∧ valOf fin o = undef

section
variable {F : Fence} {n : Nat} {P : Program} {ops : Array Oper} {Q : Exit → Act → World → Prop} {a0 : Act}

theorem semAt_congr {ro : Option Nat} {ρ ρ' : Operand → Value} (o : Oper) (hs : ∀ cs b, o.op ≠ .select cs b) (h : ∀ x ∈ o.op.operands, ρ x = ρ' x) : o.semAt ro ρ = o.semAt ro ρ' := by
  unfold Oper.semAt
  split
  · rename_i l c hc
    have : resolve ρ c o.type = resolve ρ' c o.type := resolve_congr c o.type (fun x hx => h x (by rw [hc]; exact hx))
    rw [this]
  · exact execOp_congr o hs h

theorem look_all {listed : Array Bool} {a fin : Act} (h : Mid ops a0 fin listed a) (hall : ∀ t : Tmp, (∀ (j : Nat) (o : Oper), ops[j]? = some o → o.dst ≠ some t) → fin.tmps[t]? = a0.tmps[t]?) (hd : depsOk ops = true) {i : Nat} {o : Oper} (hi : ops[i]? = some o) (hr : i ∈ Region.ready .any ops listed) :
    Region.wanted o (yielded ops a.tmps) = Region.wanted o (yielded ops fin.tmps) ∧ (∀ ro, o.semAt ro a.eval = o.semAt ro fin.eval) ∧ (∀ w, o.about P w a.eval = o.about P w fin.eval) := by
  have hin : i < ops.size := (Array.getElem?_eq_some_iff.1 hi).1
  have hlook : ∀ t ∈ o.looksAt ops, a.tmps[t]? = fin.tmps[t]? := fun t ht => h.look hall hi hd hr ht
  have hev : ∀ x ∈ o.op.operands, a.eval x = fin.eval x := by
    intro x hx
    cases x with
    | tmp t =>
      have ht : t ∈ o.looksAt ops := by
        unfold Oper.looksAt
        refine List.mem_append.2 (.inl ?_)
        exact List.mem_filterMap.2 ⟨.tmp t, by simpa using hx, rfl⟩
      have := hlook t ht
      simp only [Act.eval, Array.getD_eq_getD_getElem?, this]
    | _ => rfl
  refine ⟨?_, fun ro => semAt_congr o ?_ hev, fun w => ?_⟩
  · unfold Region.wanted
    cases hg : o.guard with
    | none => rfl
    | some g =>
      obtain ⟨j, want⟩ := g
      simp only [yielded]
      cases hj : (ops[j]?).bind (·.dst) with
      | none => rfl
      | some t =>
        have : t ∈ o.looksAt ops := by simp [Oper.looksAt, hg, hj]
        simp [hlook t this]
  · intro cs b hc
    unfold depsOk at hd
    have h1 := List.all_eq_true.1 hd i (List.mem_range.2 hin)
    simp [hi, hc] at h1
  · unfold Oper.about
    cases hop : o.op with
    | call c =>
      have : resolve a.eval c o.type = resolve fin.eval c o.type := resolve_congr c o.type (fun x hx => hev x (by rw [hop]; exact hx))
      simp only [this]
    | _ => rfl

/-- The world, and the value that hangs on it, as far as the operations have come. -/
inductive Phase (S0 : Array Bool → World → Prop) (S1 S2 : Value → World → Prop) (fin : Value → Act) (ops : Array Oper) (a0 : Act) (e : Nat) (pre : Nat → Bool) (listed : Array Bool) (a : Act) (w : World) : Prop
  | before (h : S0 listed w) (hn : listed.getD e true = false) (hp : ∀ j, listed.getD j false = true → pre j = true) (hm : ∀ v, Mid ops a0 (fin v) listed a)
  | mid (v : Value) (h : S1 v w) (he : listed.getD e true = true) (hn : listed.getD (ops.size - 1) true = false) (hde : ∀ x ∈ (ops.getD e default).after, Region.binds .any x = true → listed.getD x.on false = true) (hm : Mid ops a0 (fin v) listed a)
  | last (v : Value) (h : S2 v w) (hl : ∀ i, i < ops.size → listed.getD i true = true) (hm : Mid ops a0 (fin v) listed a)

theorem wpIn_region_eff {id : Nat} {w : World} (hmo : P.follows .mixedOrders = true) (e : Nat) (pre : Nat → Bool) (S0 : Array Bool → World → Prop) (S1 S2 : Value → World → Prop) (fin : Value → Act)
    (hd : depsOk ops = true) (hdd : dstsOk ops = true) (hp : preOk ops e pre = true) (hlo : lastOk ops = true) (hel : e < ops.size - 1) (hpe : pre e = false) (hpl : pre (ops.size - 1) = false)
    (hfin : ∀ v, (fin v).tmps = putAll (fin v) ops.toList a0.tmps) (hdf : ∀ v, (fin v).defers = a0.defers)
    (hsame : ∀ v v' (i : Nat) (o : Oper), ops[i]? = some o → pre i = true → valOf (fin v) o = valOf (fin v') o)
    (hval : ∀ v (o : Oper), ops[e]? = some o → valOf (fin v) o = v)
    (h0 : S0 (Array.replicate ops.size false) w.drew)
    (hstep0 : ∀ (i : Nat) (o : Oper), ops[i]? = some o → pre i = true → ∀ listed v w, listed.size = ops.size → listed.getD i true = false → S0 listed w → stepIn F n P ops Q (S0 (listed.setIfInBounds i true)) (fin v) o w ∧ (Region.wanted o (yielded ops (fin v).tmps) = false → S0 (listed.setIfInBounds i true) w))
    (hstepe : ∀ (o : Oper), ops[e]? = some o → ∀ listed v w, (∀ x ∈ (ops.getD e default).after, Region.binds .any x = true → listed.getD x.on false = true) → S0 listed w → Region.wanted o (yielded ops (fin v).tmps) = true ∧ (∀ f, o.about P w (fin v).eval = some f → F.fn f) ∧
      ∀ (a : Act) (K : Act → World → Prop), (∀ v' w', S1 v' w' → K (a.put o.dst v') w') → o.uponIn F n P a K Q ((o.semAt F.round (fin v).eval).run P w))
    (hstep1 : ∀ (i : Nat) (o : Oper), ops[i]? = some o → i ≠ e → i ≠ ops.size - 1 → ((ops.getD e default).after.any fun x => Region.binds .any x && x.on == i) = false → ∀ v w, S1 v w → stepIn F n P ops Q (S1 v) (fin v) o w)
    (hlast : ∀ (o : Oper), ops[ops.size - 1]? = some o → ∀ v w, S1 v w → stepIn F n P ops Q (S2 v) (fin v) o w)
    (hlw : ∀ v, (match ops[ops.size - 1]? with | some o => Region.wanted o (yielded ops (fin v).tmps) | none => true) = true)
    (hend : ∀ v w, S2 v w → Q .normal (fin v) w) :
    (Code.region id ops true).wpIn F n P Q a0 w := by
  have hsz : ∀ v, a0.tmps.size = (fin v).tmps.size := fun v => by
    have := congrArg Array.size (hfin v)
    rw [putAll_size] at this
    exact this.symm
  have hall : ∀ v, ∀ t : Tmp, (∀ (j : Nat) (o : Oper), ops[j]? = some o → o.dst ≠ some t) → (fin v).tmps[t]? = a0.tmps[t]? := by
    intro v t ht
    have h1 : (ops.toList.any fun o => o.dst == some t) = false := by
      rw [List.any_eq_false]
      intro o ho
      obtain ⟨j, hj, rfl⟩ := List.getElem_of_mem ho
      have := ht j ops[j] (Array.getElem?_eq_getElem (by simpa using hj))
      simpa using this
    have h := putAll_other (fin := fin v) t _ a0.tmps h1
    rw [← hfin v] at h
    exact h
  have full : ∀ (v : Value) (listed : Array Bool) (a : Act), listed.size = ops.size → (∀ i, i < ops.size → listed.getD i true = true) → Mid ops a0 (fin v) listed a → a = fin v := by
    intro v listed a hs hl hm
    have : a.tmps = (fin v).tmps := by
      apply Array.ext_getElem?
      intro t
      by_cases hw : ∃ (j : Nat) (o' : Oper), ops[j]? = some o' ∧ o'.dst = some t
      · obtain ⟨j, o', hj, hod⟩ := hw
        have hjn : j < ops.size := (Array.getElem?_eq_some_iff.1 hj).1
        refine hm.done j o' t hj hod ?_
        have := hl j hjn
        have hjl : j < listed.size := by omega
        simpa [Array.getD, hjl] using this
      · have hw' : ∀ (j : Nat) (o' : Oper), ops[j]? = some o' → o'.dst ≠ some t := fun j o' hj hod => hw ⟨j, o', hj, hod⟩
        rw [hall v t hw']
        exact hm.rest t (fun j o' hj _ => hw' j o' hj)
    have h2 := hm.defers
    have h3 := hdf v
    revert this h2 h3
    generalize fin v = f
    cases a; cases f
    intro h1 h2 h3
    simp only at h1 h2 h3
    rw [h1, h2, h3]
  have readyOf : ∀ (listed : Array Bool) (i : Nat), listed.size = ops.size → i ∈ Region.ready .any ops listed → i < ops.size ∧ listed.getD i true = false ∧ ∀ x ∈ (ops.getD i default).after, Region.binds .any x = true → listed.getD x.on false = true := by
    intro listed i hs hi
    simp only [Region.ready, List.mem_filter, List.mem_range, Bool.and_eq_true, Bool.not_eq_true'] at hi
    obtain ⟨hlt, hun, hx⟩ := hi
    refine ⟨hlt, hun, fun x hmem hb => ?_⟩
    have ho : ops[i]? = some ops[i] := Array.getElem?_eq_getElem hlt
    rw [ho] at hx
    simp only [Option.map_some, Option.getD_some] at hx
    have hg : ops.getD i default = ops[i] := by simp [hlt]
    rw [hg] at hmem
    have h5 := Array.all_eq_true'.1 hx x hmem
    simpa [hb] using h5
  have noReady : ∀ (listed : Array Bool), listed.size = ops.size → Region.ready .any ops listed = [] → ∀ i, i < ops.size → listed.getD i true = true := by
    intro listed hs hr i
    induction i using Nat.strongRecOn with
    | _ i ih =>
      intro hi
      cases hl : listed.getD i true with
      | true => rfl
      | false =>
        exfalso
        have ho : ops[i]? = some ops[i] := Array.getElem?_eq_getElem hi
        have : i ∈ Region.ready .any ops listed := by
          simp only [Region.ready, List.mem_filter, List.mem_range, hi, hl, ho, Option.map_some, Option.getD_some, Bool.not_false, Bool.true_and, true_and]
          refine Array.all_eq_true'.2 fun x hx => ?_
          unfold depsOk at hd
          have h1 := List.all_eq_true.1 hd i (List.mem_range.2 hi)
          simp only [ho, Bool.and_eq_true] at h1
          have h2 := Array.all_eq_true'.1 h1.1.1 x hx
          simp only [Bool.or_eq_true, decide_eq_true_eq] at h2 ⊢
          rcases h2 with h2 | h2
          · exact .inl h2
          · right
            have h3 := ih x.on h2 (by omega)
            have hel : x.on < listed.size := by omega
            simpa [Array.getD, hel] using h3
        rw [hr] at this
        cases this
  have setGet : ∀ (listed : Array Bool) (i j : Nat) (d : Bool), i < listed.size → (listed.setIfInBounds i true).getD j d = if j = i then true else listed.getD j d := by
    intro listed i j d hi
    by_cases he : j = i
    · subst he; simp [hi]
    · simp only [he, if_false, Array.getD_eq_getD_getElem?]
      rw [Array.getElem?_setIfInBounds_ne (fun h => he h.symm)]
  have main : ∀ (fuel : Nat) (listed : Array Bool) (a : Act) (w : World), listed.size = ops.size → (∀ l : List Nat, l.Nodup → (∀ i ∈ l, i < ops.size ∧ listed.getD i true = false) → l.length ≤ fuel) →
      Phase S0 S1 S2 fin ops a0 e pre listed a w → wpAnyIn F n P .any ops Q fuel listed a w := by
    have done : ∀ (listed : Array Bool) (a : Act) (w : World), listed.size = ops.size → (∀ i, i < ops.size → listed.getD i true = true) → Phase S0 S1 S2 fin ops a0 e pre listed a w → Q .normal a w := by
      intro listed a w hs hl hph
      cases hph with
      | before h hn _ _ => rw [hl e (by omega)] at hn; cases hn
      | mid v h he hn hde hm => rw [hl (ops.size - 1) (by omega)] at hn; cases hn
      | last v h _ hm => exact full v listed a hs hl hm ▸ hend v w h
    intro fuel
    induction fuel with
    | zero =>
      intro listed a w hs hf hph
      have hl : ∀ i, i < ops.size → listed.getD i true = true := by
        intro i hi
        cases h : listed.getD i true with
        | true => rfl
        | false =>
          have := hf [i] (by simp) (fun j hj => by rw [List.mem_singleton.1 hj]; exact ⟨hi, h⟩)
          simp at this
      refine ⟨?_, done listed a w hs hl hph⟩
      unfold Region.ready
      rw [List.filter_eq_nil_iff]
      intro i hi
      simp [hl i (List.mem_range.1 hi)]
    | succ fuel ih =>
      intro listed a w hs hf hph
      refine ⟨fun hr => done listed a w hs (noReady listed hs hr) hph, fun i hi => ?_⟩
      obtain ⟨hlt, hun, hdeps⟩ := readyOf listed i hs hi
      have ho : ops[i]? = some ops[i] := Array.getElem?_eq_getElem hlt
      have hgd : ops.getD i default = ops[i] := by simp [hlt]
      rw [hgd] at hdeps
      have hil : i < listed.size := by omega
      have hf' : ∀ l : List Nat, l.Nodup → (∀ j ∈ l, j < ops.size ∧ (listed.setIfInBounds i true).getD j true = false) → l.length ≤ fuel := by
        intro l hnd hl
        have hni : i ∉ l := by
          intro hmem
          have := (hl i hmem).2
          rw [setGet _ _ _ _ hil] at this
          simp at this
        have := hf (i :: l) (List.nodup_cons.2 ⟨hni, hnd⟩) (by
          intro j hj
          rcases List.mem_cons.1 hj with rfl | hj
          · exact ⟨hlt, hun⟩
          · obtain ⟨h1, h2⟩ := hl j hj
            refine ⟨h1, ?_⟩
            have hne : j ≠ i := fun e => hni (e ▸ hj)
            rw [setGet _ _ _ _ hil, if_neg hne] at h2
            exact h2)
        simp at this
        omega
      -- one step, by what is listed
      have go : ∀ (v : Value) (S : World → Prop), Mid ops a0 (fin v) listed a → stepIn F n P ops Q S (fin v) ops[i] w → (Region.wanted ops[i] (yielded ops (fin v).tmps) = false → S w) →
          (∀ w', S w' → wpAnyIn F n P .any ops Q fuel (listed.setIfInBounds i true) (a.put ops[i].dst (valOf (fin v) ops[i])) w') → wpOpIn F n P ops Q i (wpAnyIn F n P .any ops Q fuel (listed.setIfInBounds i true)) a w := by
        intro v S hm hst hw0 hK
        obtain ⟨hy, hsem, hab⟩ := look_all (P := P) hm (hall v) hd ho hi
        unfold wpOpIn
        rw [ho]
        simp only [hy]
        unfold stepIn at hst
        by_cases hwt : Region.wanted ops[i] (yielded ops (fin v).tmps) = true
        · rw [if_pos hwt] at hst ⊢
          unfold Oper.wpIn
          rw [hab w, hsem]
          exact ⟨hst.1, hst.2 a _ hK⟩
        · rw [if_neg hwt] at hst ⊢
          rw [hab w]
          refine ⟨hst.1, ?_⟩
          have := hK w (hw0 (by simpa using hwt))
          rw [hst.2] at this
          exact this
      cases hph with
      | before h hn hpp hm =>
        by_cases hie : i = e
        · subst hie
          obtain ⟨hw, hab0, hst⟩ := hstepe _ ho listed undef w (fun x hx => hdeps x (by rw [← hgd]; exact hx)) h
          obtain ⟨hy, hsem, hab⟩ := look_all (P := P) (hm undef) (hall undef) hd ho hi
          unfold wpOpIn
          rw [ho]
          simp only [hy, hw, if_true]
          unfold Oper.wpIn
          rw [hab w, hsem]
          refine ⟨hab0, hst a _ fun v' w' h1 => ?_⟩
          refine ih _ _ w' (by simpa using hs) hf' (.mid v' h1 ?_ ?_ (fun x hx hb => ?hde) ?_)
          case hde =>
            rw [setGet _ _ _ _ hil]
            split
            · rfl
            · exact hdeps x (by rw [← hgd]; exact hx) hb
          · rw [setGet _ _ _ _ hil]; simp
          · rw [setGet _ _ _ _ hil, if_neg (by omega)]
            cases hx : listed.getD (ops.size - 1) true with
            | false => rfl
            | true =>
              have h2 : listed.getD (ops.size - 1) false = true := by
                have hb : ops.size - 1 < listed.size := by omega
                simpa [Array.getD, hb] using hx
              have := hpp _ h2
              rw [hpl] at this; cases this
          · have := (hm v').put ho hil hdd
            rw [hval v' _ ho] at this
            exact this
        · have hpi : pre i = true := by
            unfold preOk at hp
            have h1 := List.all_eq_true.1 hp i (List.mem_range.2 hlt)
            simp only [ho, Bool.or_eq_true, beq_iff_eq, hie, false_or] at h1
            rcases h1 with h1 | h1
            · exact h1
            · exfalso
              obtain ⟨x, hx, hxx⟩ := Array.any_eq_true'.1 h1
              simp only [Bool.and_eq_true, Bool.or_eq_true, beq_iff_eq, Bool.not_eq_true'] at hxx
              have hl := hdeps x hx hxx.1
              rcases hxx.2 with h2 | h2
              · rw [h2] at hl
                have hb : e < listed.size := by omega
                simp [Array.getD, hb] at hl hn
                rw [hl] at hn; cases hn
              · have := hpp _ hl
                rw [h2] at this; cases this
          obtain ⟨hs1, hs2⟩ := hstep0 i _ ho hpi listed undef w hs hun h
          refine go undef (S0 (listed.setIfInBounds i true)) (hm undef) hs1 hs2 fun w' h' => ih _ _ w' (by simpa using hs) hf' (.before h' ?_ ?_ ?_)
          · rw [setGet _ _ _ _ hil, if_neg (fun he => hie he.symm)]; exact hn
          · intro j hj
            rw [setGet _ _ _ _ hil] at hj
            by_cases hji : j = i
            · rw [hji]; exact hpi
            · rw [if_neg hji] at hj; exact hpp j hj
          · intro v
            have := (hm v).put ho hil hdd
            rw [hsame v undef i _ ho hpi] at this
            exact this
      | mid v h he hn hde hm =>
        have hie : i ≠ e := by
          rintro rfl
          rw [he] at hun; cases hun
        by_cases hil2 : i = ops.size - 1
        · have hlall : ∀ j, j < ops.size → (listed.setIfInBounds i true).getD j true = true := by
            intro j hj
            rw [setGet _ _ _ _ hil]
            by_cases hji : j = i
            · rw [if_pos hji]
            · rw [if_neg hji]
              have hlo' := hlo
              unfold lastOk at hlo'
              rw [← hil2, ho] at hlo'
              simp only at hlo'
              have h1 := List.all_eq_true.1 hlo' j (List.mem_range.2 (by omega))
              obtain ⟨x, hx, hxx⟩ := Array.any_eq_true'.1 h1
              simp only [Bool.and_eq_true, beq_iff_eq] at hxx
              have := hdeps x hx hxx.2
              rw [hxx.1] at this
              have hb : j < listed.size := by omega
              simpa [Array.getD, hb] using this
          refine go v (S2 v) hm (hlast _ (hil2 ▸ ho) v w h) (fun hwf => ?_) fun w' h' => ih _ _ w' (by simpa using hs) hf' (.last v h' hlall (hm.put ho hil hdd))
          -- the last operation is carried out
          have h9 := hlw v
          rw [← hil2, ho] at h9
          simp only at h9
          rw [h9] at hwf; cases hwf
        · refine go v (S1 v) hm (hstep1 i _ ho hie hil2 ?hnd v w h) (fun _ => h) fun w' h' => ih _ _ w' (by simpa using hs) hf' (.mid v h' ?_ ?_ (fun x hx hb => ?hde) (hm.put ho hil hdd))
          case hnd =>
            rw [Array.any_eq_false']
            intro x hx hb
            simp only [Bool.and_eq_true, beq_iff_eq] at hb
            have h5 := hde x hx hb.1
            rw [hb.2] at h5
            simp [Array.getD, hil] at h5 hun
            rw [h5] at hun; cases hun
          case hde =>
            rw [setGet _ _ _ _ hil]
            split
            · rfl
            · exact hde x hx hb
          · rw [setGet _ _ _ _ hil]; split <;> simp_all
          · rw [setGet _ _ _ _ hil, if_neg (fun he => hil2 he.symm)]; exact hn
      | last v h hl hm =>
        rw [hl i hlt] at hun; cases hun
  refine wpIn_region_any hmo (main ops.size _ a0 _ (by simp) ?_ (.before h0 ?_ ?_ fun v => Mid.start (hsz v)))
  · intro l hnd hl
    exact nodup_le ops.size l hnd (fun i hi => (hl i hi).1)
  · have : e < ops.size := by omega
    simp [this]
  · intro j hj
    by_cases h : j < ops.size <;> simp [h] at hj
end
end Go.Proofs.YtakldmbbmefnbaaGreat
/- walk: the rows of where one comes to, of the closure. -/
namespace Go.Proofs.YtakldmbbmefnbaaGreat
open Go.RowKit

theorem info_ints : (Tryz.prog.info? 22).map (fun i => (i.zero, i.size, i.bytes)) = some (some (.slice none 0 0), 1, 24) := by kernel_rfl
theorem info_bool : (Tryz.prog.info? 4).map (fun i => (i.zero, i.size, i.bytes)) = some (some (.bool false), 1, 1) := by kernel_rfl

/-- Where the pairs lead from i. -/
def nexts (ps : List (Int × Int)) (i : Int) : List Int := (ps.filter (fun q => q.1 == i)).map (·.2)
theorem nexts_same (ps : List (Int × Int)) (i s : Int) : nexts (ps ++ [(i, s)]) i = nexts ps i ++ [s] := by simp [nexts]
theorem nexts_other (ps : List (Int × Int)) {i j : Int} (s : Int) (h : i ≠ j) : nexts (ps ++ [(i, s)]) j = nexts ps j := by simp [nexts, h]
theorem nexts_len (ps : List (Int × Int)) (i : Int) : (nexts ps i).length ≤ ps.length := by unfold nexts; rw [List.length_map]; exact List.length_filter_le _ _
theorem mem_nexts {ps : List (Int × Int)} {i s : Int} : s ∈ nexts ps i ↔ (i, s) ∈ ps := by
  unfold nexts
  simp only [List.mem_map, List.mem_filter, beq_iff_eq]
  constructor
  · rintro ⟨⟨a, b⟩, ⟨h, rfl⟩, rfl⟩; exact h
  · intro h; exact ⟨(i, s), ⟨h, rfl⟩, rfl⟩

/-- The rows: gn is the block of the rows' values. -/
structure Rows (w : World) (base gn n : Nat) (rows : List Value) (ps : List (Int × Int)) : Prop where
  len : rows.length = n
  g : w.heap[gn]? = some (.cells rows.toArray 22 (0, 0))
  own : ∀ i (h : i < rows.length), Own encI 1 3 w base rows[i] (nexts ps i)
  apart : ∀ i j (hi : i < rows.length) (hj : j < rows.length), i ≠ j → ∀ k, blk rows[i] = some k → blk rows[j] ≠ some k

theorem Rows.near {w w' : World} {base gn n B : Nat} {rows : List Value} {ps : List (Int × Int)} (h : Rows w base gn n rows ps) (hn : Near B w w') : Rows w' base gn n rows ps :=
  ⟨h.len, hn.cells h.g, fun i hi => hn.own (h.own i hi), h.apart⟩

/-- One row grows by one. -/
theorem Rows.put {w w1 : World} {base gn n : Nat} {rows : List Value} {ps : List (Int × Int)} (h : Rows w base gn n rows ps) {i : Nat} (hi : i < rows.length) {s : Int} {v' : Value}
    (ho : Own encI 1 3 w1 base v' (nexts ps i ++ [s])) (hg : w.grownBy w1 (blk rows[i])) (hv : blk v' = blk rows[i] ∨ (∃ k, w.heap.size ≤ k ∧ blk v' = some k) ∨ blk v' = none) :
    Rows (w1.setCell ⟨gn, i, none⟩ v') base gn n (rows.set i v') (ps ++ [((i : Int), s)]) := by
  have hne := own_ne (h.own i hi) h.g (by decide)
  have hgl : gn < w.heap.size := (Array.getElem?_eq_some_iff.1 h.g).1
  have g1 : w1.heap[gn]? = _ := (hg.block gn hgl (fun e => hne e.symm)).trans h.g
  refine ⟨by simp [h.len], ?_, ?_, ?_⟩
  · rw [heap_set g1]; simp
  · intro j hj
    have hj' : j < rows.length := by simpa using hj
    by_cases e : i = j
    · subst e
      rw [nexts_same, List.getElem_set_self]
      exact ho.setCell (own_ne ho g1 (by decide)) _
    · rw [nexts_other _ _ (by omega), List.getElem_set_ne e]
      have h1 := (h.own j hj').kept hg (fun k hk hk2 => h.apart i j hi hj' e k hk2 hk)
      exact h1.setCell (own_ne h1 g1 (by decide)) _
  · intro a b ha hb hab k hk
    have ha' : a < rows.length := by simpa using ha
    have hb' : b < rows.length := by simpa using hb
    have new : ∀ j (hj : j < rows.length), i ≠ j → ∀ k, blk v' = some k → blk rows[j] ≠ some k := by
      intro j hj hij k hk hk2
      rcases hv with hv | ⟨k', hk', hv⟩ | hv
      · exact h.apart i j hi hj hij k (hv ▸ hk) hk2
      · rw [hv] at hk; cases hk
        have := ((h.own j hj).lt _ hk2).2
        omega
      · rw [hv] at hk; cases hk
    by_cases e : i = a
    · subst e
      rw [List.getElem_set_self] at hk
      rw [List.getElem_set_ne hab]
      exact new b hb' hab k hk
    · rw [List.getElem_set_ne e] at hk
      by_cases e2 : i = b
      · subst e2
        rw [List.getElem_set_self]
        intro hk2
        exact new a ha' e k hk2 hk
      · rw [List.getElem_set_ne e2]
        exact h.apart a b ha' hb' hab k hk

theorem rows_start {w : World} {base gn n : Nat} (hg : w.heap[gn]? = some (.cells (madeCells #[.slice none 0 0] n) 22 (0, 0))) : Rows w base gn n (List.replicate n (.slice none 0 0)) [] := by
  refine ⟨by simp, ?_, ?_, ?_⟩
  · rw [hg]
    have : (madeCells #[Value.slice none 0 0] n) = (List.replicate n (.slice none 0 0)).toArray := by
      rw [← toList_madeCells_one]
    rw [this]
  · intro i hi
    simp only [List.getElem_replicate]
    exact Own.nil ..
  · intro i j hi hj _ k hk
    simp [blk] at hk

/-- How an edge leads. -/
def turned (back : Bool) (e : E) : Int × Int := if back then (e.dst, e.src) else (e.src, e.dst)
def A.pairs (a : A) (back : Bool) (p : E → Bool) : List (Int × Int) := (a.edges.filter p).map (turned back)
end Go.Proofs.YtakldmbbmefnbaaGreat
/- Where one comes to by pairs; no program in sight. -/
namespace Go.Proofs.YtakldmbbmefnbaaGreat

/-- To where one comes from l by pairs. -/
inductive Goes (ps : List (Int × Int)) (l : List Int) : Int → Prop
  | start {s : Int} (h : s ∈ l) : Goes ps l s
  | step {r s : Int} (h : Goes ps l r) (hp : (r, s) ∈ ps) : Goes ps l s

open Classical in
/-- All of these, rising. -/
noncomputable def cl (n : Nat) (ps : List (Int × Int)) (l : List Int) : List Int := ((List.range n).map (fun i : Nat => (i : Int))).filter (fun s => decide (Goes ps l s))

def Strict (l : List Int) : Prop := l.Pairwise (· < ·)

theorem strict_ext {a b : List Int} (ha : Strict a) (hb : Strict b) (h : ∀ s, s ∈ a ↔ s ∈ b) : a = b := by
  induction a generalizing b with
  | nil =>
    cases b with
    | nil => rfl
    | cons y ys => exact absurd ((h y).2 (by simp)) (by simp)
  | cons x xs ih =>
    cases b with
    | nil => exact absurd ((h x).1 (by simp)) (by simp)
    | cons y ys =>
      unfold Strict at ha hb
      rw [List.pairwise_cons] at ha hb
      have hxy : x = y := by
        have h1 := (h x).1 (by simp)
        have h2 := (h y).2 (by simp)
        rcases List.mem_cons.1 h1 with e | e
        · exact e
        · rcases List.mem_cons.1 h2 with e2 | e2
          · exact e2.symm
          · have := hb.1 _ e; have := ha.1 _ e2; omega
      subst hxy
      congr 1
      refine ih ha.2 hb.2 fun s => ?_
      constructor
      · intro hs
        rcases List.mem_cons.1 ((h s).1 (List.mem_cons_of_mem _ hs)) with e | e
        · subst e; have := ha.1 _ hs; omega
        · exact e
      · intro hs
        rcases List.mem_cons.1 ((h s).2 (List.mem_cons_of_mem _ hs)) with e | e
        · subst e; have := hb.1 _ hs; omega
        · exact e

theorem strict_range (n : Nat) : Strict ((List.range n).map (fun i : Nat => (i : Int))) := by
  unfold Strict
  rw [List.pairwise_map]
  exact List.pairwise_lt_range.imp (fun h => by omega)
theorem cl_strict (n : Nat) (ps : List (Int × Int)) (l : List Int) : Strict (cl n ps l) := (strict_range n).filter _
theorem mem_cl {n : Nat} {ps : List (Int × Int)} {l : List Int} {s : Int} : s ∈ cl n ps l ↔ (0 ≤ s ∧ s < n) ∧ Goes ps l s := by
  unfold cl
  rw [List.mem_filter]
  simp only [List.mem_map, List.mem_range, decide_eq_true_eq]
  constructor
  · rintro ⟨⟨i, hi, rfl⟩, h⟩; exact ⟨by omega, h⟩
  · rintro ⟨h1, h2⟩; exact ⟨⟨s.toNat, by omega, by omega⟩, h2⟩

theorem mem_meet {ws : List Int} {s t : Int} : t ∈ meet ws s ↔ t ∈ ws ∨ t = s := by
  unfold meet
  split
  · rename_i h
    constructor
    · exact .inl
    · rintro (h1 | rfl)
      · exact h1
      · simpa using h
  · simp
theorem meet_get {ws : List Int} {s : Int} {i : Nat} (h : i < ws.length) : (meet ws s)[i]? = ws[i]? := by
  unfold meet
  split
  · rfl
  · rw [List.getElem?_append_left h]
theorem meet_len {ws : List Int} {s : Int} : ws.length ≤ (meet ws s).length := by
  unfold meet
  split <;> simp

/-- What has been met, so far. -/
structure BInv (n : Nat) (ps : List (Int × Int)) (l ws : List Int) (k : Nat) : Prop where
  nodup : ws.Nodup
  bound : ∀ s ∈ ws, 0 ≤ s ∧ s < n
  goes : ∀ s ∈ ws, Goes ps l s
  at_ : k ≤ ws.length
  done : ∀ i, i < k → ∀ q, ws[i]? = some q → ∀ t, (q, t) ∈ ps → t ∈ ws

theorem BInv.start (n : Nat) (ps : List (Int × Int)) (l : List Int) : BInv n ps l [] 0 := ⟨List.nodup_nil, by simp, by simp, Nat.le_refl _, fun i hi => absurd hi (Nat.not_lt_zero i)⟩
theorem BInv.meet {n : Nat} {ps : List (Int × Int)} {l ws : List Int} {k : Nat} (h : BInv n ps l ws k) {s : Int} (h0 : 0 ≤ s) (h1 : s < n) (hg : Goes ps l s) : BInv n ps l (meet ws s) k := by
  refine ⟨?_, ?_, ?_, Nat.le_trans h.at_ meet_len, ?_⟩
  · unfold Go.Proofs.YtakldmbbmefnbaaGreat.meet
    split
    · exact h.nodup
    · rename_i hc
      rw [List.nodup_append]
      refine ⟨h.nodup, by simp, fun a ha b hb => ?_⟩
      rw [List.mem_singleton] at hb
      subst hb
      rintro rfl
      exact hc (by simpa using ha)
  · intro t ht
    rcases mem_meet.1 ht with h2 | rfl
    · exact h.bound t h2
    · exact ⟨h0, h1⟩
  · intro t ht
    rcases mem_meet.1 ht with h2 | rfl
    · exact h.goes t h2
    · exact hg
  · intro i hi q hq t hp
    rw [meet_get (Nat.lt_of_lt_of_le hi h.at_)] at hq
    exact mem_meet.2 (.inl (h.done i hi q hq t hp))
theorem BInv.next {n : Nat} {ps : List (Int × Int)} {l ws : List Int} {k : Nat} (h : BInv n ps l ws k) (hk : k < ws.length) (hd : ∀ t ∈ nexts ps ws[k], t ∈ ws) : BInv n ps l ws (k + 1) := by
  refine ⟨h.nodup, h.bound, h.goes, hk, fun i hi q hq t hp => ?_⟩
  by_cases e : i = k
  · subst e
    rw [List.getElem?_eq_getElem hk] at hq
    cases hq
    exact hd t (mem_nexts.2 hp)
  · exact h.done i (by omega) q hq t hp

theorem nodup_range : ∀ (n : Nat) (l : List Nat), l.Nodup → (∀ i ∈ l, i < n) → l.length ≤ n
  | 0, l, _, h => by
    cases l with
    | nil => exact Nat.le_refl _
    | cons x xs => exact absurd (h x (by simp)) (Nat.not_lt_zero _)
  | n + 1, l, hn, h => by
    by_cases hm : n ∈ l
    · have h1 := nodup_range n (l.erase n) (hn.erase n) (fun i hi => by
        have h2 := hn.mem_erase_iff.1 hi
        have := h i h2.2
        have := h2.1
        omega)
      have := List.length_erase_of_mem hm
      omega
    · have := nodup_range n l hn (fun i hi => by
        have := h i hi
        have : i ≠ n := fun e => hm (e ▸ hi)
        omega)
      omega
theorem BInv.len {n : Nat} {ps : List (Int × Int)} {l ws : List Int} {k : Nat} (h : BInv n ps l ws k) : ws.length ≤ n := by
  have := nodup_range n (ws.map Int.toNat) (by
    unfold List.Nodup
    rw [List.pairwise_map]
    refine List.Pairwise.imp_of_mem ?_ h.nodup
    intro a b ha hb hab e
    have := h.bound a ha
    have := h.bound b hb
    exact hab (by omega)) (fun i hi => by
    obtain ⟨s, hs, rfl⟩ := List.mem_map.1 hi
    have := h.bound s hs
    omega)
  simpa using this
theorem BInv.finish {n : Nat} {ps : List (Int × Int)} {l ws : List Int} (h : BInv n ps l ws ws.length) (hl : ∀ s ∈ l, s ∈ ws) (s : Int) : s ∈ ws ↔ Goes ps l s := by
  refine ⟨h.goes s, fun hg => ?_⟩
  induction hg with
  | start hs => exact hl _ hs
  | step _ hp ih =>
    obtain ⟨i, hi, e⟩ := List.getElem_of_mem ih
    exact h.done i hi _ (by rw [List.getElem?_eq_getElem hi, e]) _ hp
theorem BInv.cl {n : Nat} {ps : List (Int × Int)} {l ws ys : List Int} (h : BInv n ps l ws ws.length) (hl : ∀ s ∈ l, s ∈ ws) (hy : Strict ys) (hm : ∀ s, s ∈ ys ↔ s ∈ ws) : ys = cl n ps l := by
  refine strict_ext hy (cl_strict ..) fun s => ?_
  rw [hm, mem_cl]
  exact ⟨fun hs => ⟨h.bound s hs, h.goes s hs⟩, fun hs => (h.finish hl s).2 hs.2⟩
end Go.Proofs.YtakldmbbmefnbaaGreat
/- slices.Index, Contains and Equal at numbers. -/

namespace Go.Proofs.YtakldmbbmefnbaaGreat
open Go.RowKit
set_option maxHeartbeats 400000 in
theorem index_int (v : Value) (xs : List Int) (y : Int) (w : World) (h : Ints w w.heap.size v xs) (hn : xs.length ≤ 1000000) :
    Calls Tryz.prog 119 #[v, .int .i64 y] w (fun r w' => r = .returned (.int .i64 (idxOf (fun x => y == x) xs)) ∧ w' = w) := by
  obtain ⟨A, c, rfl, hr⟩ := id h
  go_enter Tryz.func119, Tryz.ntmps119
  go_wp2
  go_loop [8] (fun i => ∃ k : Nat, k ≤ xs.length ∧ i = .int .i64 k ∧ ∀ j (hj : j < k) (hj' : j < xs.length), (y == xs[j]) = false) (fun i => xs.length - (intOf i).toNat)
  case atStart => exact ⟨0, Nat.zero_le _, rfl, fun j hj => absurd hj (by omega)⟩
  case round =>
    obtain ⟨k, hk, rfl, hall⟩ := hrel
    have HA := Lib.hid hall
    clear hall
    by_cases hlt : k < xs.length
    · obtain ⟨b, o, rfl, hb, hc⟩ := hr (by omega)
      have hcell := cell1 encI_eq hc hlt
      clear hr hc h
      by_cases hpx : (y == xs[k]) = true
      · go_wp2
        go_ret
        have hi := idxOf_at (p := fun x => y == x) hlt (fun j hj => HA.out j hj (by omega)) hpx
        exact ⟨by simp [hi], rfl⟩
      · have hpx' : (y == xs[k]) = false := by simpa using hpx
        have HP := Lib.hid hpx'
        go_wp2
        go_round
        case rel =>
          refine ⟨k + 1, by omega, by go_num, fun j hj hj' => ?_⟩
          rcases Nat.lt_succ_iff_lt_or_eq.1 hj with h | rfl
          · exact HA.out j h hj'
          · exact HP.out
        case measure => simp [intOf]; omega
    · clear hr h
      go_wp2
      go_ret
      have hi := idxOf_none (p := fun x => y == x) (xs := xs) (fun j hj => HA.out j (by omega) hj)
      exact ⟨by simp [hi], rfl⟩
theorem contains_int (v : Value) (xs : List Int) (y : Int) (w : World) (h : Ints w w.heap.size v xs) (hn : xs.length ≤ 1000000) :
    Calls Tryz.prog 54 #[v, .int .i64 y] w (fun r w' => r = .returned (.bool (xs.any (fun x => y == x))) ∧ w' = w) := by
  rw [← idxOf_any]
  go_enter Tryz.func54, Tryz.ntmps54
  go_wp2_with (go_at_call 119; refine (index_int _ xs y _ h hn).mono ?_; rintro e w1 ⟨rfl, rfl⟩)
  all_goals (go_ret; exact ⟨rfl, rfl⟩)

theorem equal_int (v v' : Value) (xs ys : List Int) (w : World) (h : Ints w w.heap.size v xs) (h' : Ints w w.heap.size v' ys) (hn : xs.length ≤ 1000000) (hn' : ys.length ≤ 1000000) :
    Calls Tryz.prog 21 #[v, v'] w (fun r w' => r = .returned (.bool (xs == ys)) ∧ Below w.heap.size w w') := by
  obtain ⟨A, c, rfl, hr⟩ := id h
  obtain ⟨A', c', rfl, hr'⟩ := id h'
  go_enter Tryz.func21, Tryz.ntmps21
  by_cases hl : ((xs.length : Int) != ys.length) = true
  · go_wp2
    go_ret
    have : xs ≠ ys := by rintro rfl; simp at hl
    exact ⟨by simp [this], Below.refl _ _⟩
  · have hl' : ((xs.length : Int) != ys.length) = false := by simpa using hl
    go_wp2
    have hll : xs.length = ys.length := by simp at hl'; omega
    have HL := Lib.hid hll
    clear hll hl hl'
    go_loopw [13] (fun i wr => ∃ k : Nat, k ≤ xs.length ∧ i = .int .i64 k ∧ Below w.heap.size w wr ∧ xs.take k = ys.take k) (fun i _ => xs.length - (intOf i).toNat)
    case atStart => exact ⟨0, Nat.zero_le _, rfl, Below.refl _ _, rfl⟩
    case round =>
      obtain ⟨k, hk, rfl, hB, hall⟩ := hrel
      have HA := Lib.hid hall
      clear hall
      by_cases hlt : k < xs.length
      · have hlt' : k < ys.length := by have := HL.out; omega
        obtain ⟨b, o, rfl, hb, hc⟩ := hr (by omega)
        obtain ⟨b', o', rfl, hb', hc'⟩ := hr' (by omega)
        have hcell := (hB.cell (p := ⟨b, o + k, none⟩) hb).trans (cell1 encI_eq hc hlt)
        have hcell' := (hB.cell (p := ⟨b', o' + k, none⟩) hb').trans (cell1 encI_eq hc' hlt')
        clear hr hc h hr' hc' h'
        have hi : (k : Int) < xs.length := by omega
        have hi' : (k : Int) < ys.length := by omega
        by_cases hpx : (xs[k] != ys[k]) = true
        · go_wp2
          go_quiet (fail)
          go_wp2
          go_ret
          have : xs ≠ ys := by rintro rfl; simp at hpx
          exact ⟨by simp [this], below_drewN hB _⟩
        · have hpx' : (xs[k] != ys[k]) = false := by simpa using hpx
          have HP := Lib.hid hpx'
          go_wp2
          go_quiet (fail)
          go_wp2
          go_roundw
          case rel =>
            refine ⟨k + 1, by omega, by go_num, below_drewN hB _, ?_⟩
            have h1 := HP.out
            have h2 : xs[k] = ys[k] := by simpa using h1
            rw [List.take_succ_eq_append_getElem hlt, List.take_succ_eq_append_getElem hlt', HA.out, h2]
          case measure => simp [intOf]; omega
      · clear hr h hr' h'
        go_wp2
        go_ret
        have h1 := HA.out
        have h2 := HL.out
        rw [List.take_of_length_le (by omega), List.take_of_length_le (by omega)] at h1
        exact ⟨by simp [h1], hB⟩
end Go.Proofs.YtakldmbbmefnbaaGreat
/- The sort's contract, laid by the shelf's commands. -/
namespace Go.Proofs
open Go.Shelf
def Tryz.lays189_ren : Go.Shelf.Ren := ⟨fun | 189 => 163 | 125 => 168 | 257 => 173 | 128 => 182 | 129 => 183 | 294 => 185 | 295 => 186 | 296 => 187 | 297 => 188 | 298 => 189 | 299 => 190 | 216 => 121 | 300 => 191 | 301 => 192 | 328 => 198 | 329 => 194 | 330 => 195 | 331 => 199 | 332 => 200 | 215 => 161 | 343 => 202 | n => n, fun | 28 => 22 | 3 => 3 | 46 => 164 | 0 => 0 | 51 => 182 | 53 => 67 | 4 => 4 | 183 => 175 | 182 => 174 | 131 => 179 | 5 => 5 | 9 => 9 | 218 => 188 | 222 => 192 | 228 => 196 | 229 => 197 | n => n, fun | n => n⟩
theorem Tryz.lays189 : Go.Proofs.Lays.n189 Tryz.prog Tryz.lays189_ren := {
  mixed := by kernel_rfl
  f125 := Tryz.func168.trans (congrArg some (by kernel_rfl))
  f128 := Tryz.func182.trans (congrArg some (by kernel_rfl))
  f129 := Tryz.func183.trans (congrArg some (by kernel_rfl))
  f189 := Tryz.func163.trans (congrArg some (by kernel_rfl))
  f215 := Tryz.func161.trans (congrArg some (by kernel_rfl))
  f216 := Tryz.func121.trans (congrArg some (by kernel_rfl))
  f257 := Tryz.func173.trans (congrArg some (by kernel_rfl))
  f294 := Tryz.func185.trans (congrArg some (by kernel_rfl))
  f295 := Tryz.func186.trans (congrArg some (by kernel_rfl))
  f296 := Tryz.func187.trans (congrArg some (by kernel_rfl))
  f297 := Tryz.func188.trans (congrArg some (by kernel_rfl))
  f298 := Tryz.func189.trans (congrArg some (by kernel_rfl))
  f299 := Tryz.func190.trans (congrArg some (by kernel_rfl))
  f300 := Tryz.func191.trans (congrArg some (by kernel_rfl))
  f301 := Tryz.func192.trans (congrArg some (by kernel_rfl))
  f328 := Tryz.func198.trans (congrArg some (by kernel_rfl))
  f329 := Tryz.func194.trans (congrArg some (by kernel_rfl))
  f330 := Tryz.func195.trans (congrArg some (by kernel_rfl))
  f331 := Tryz.func199.trans (congrArg some (by kernel_rfl))
  f332 := Tryz.func200.trans (congrArg some (by kernel_rfl))
  f343 := Tryz.func202.trans (congrArg some (by kernel_rfl))
  t0 := Tryz.underlying0
  a0 := Tryz.isAgg0
  z0 := Tryz.sizeOf0
  v0 := Tryz.zeroValue0
  t3 := Tryz.underlying3
  a3 := Tryz.isAgg3
  z3 := Tryz.sizeOf3
  v3 := Tryz.zeroValue3
  t4 := Tryz.underlying4
  a4 := Tryz.isAgg4
  z4 := Tryz.sizeOf4
  v4 := Tryz.zeroValue4
  t5 := Tryz.underlying5
  a5 := Tryz.isAgg5
  z5 := Tryz.sizeOf5
  v5 := Tryz.zeroValue5
  t9 := Tryz.underlying9
  a9 := Tryz.isAgg9
  z9 := Tryz.sizeOf9
  v9 := Tryz.zeroValue9
  t28 := Tryz.underlying22
  a28 := Tryz.isAgg22
  z28 := Tryz.sizeOf22
  v28 := Tryz.zeroValue22
  t46 := Tryz.underlying164
  a46 := Tryz.isAgg164
  z46 := Tryz.sizeOf164
  v46 := Tryz.zeroValue164
  t51 := Tryz.underlying182
  a51 := Tryz.isAgg182
  z51 := Tryz.sizeOf182
  v51 := Tryz.zeroValue182
  t53 := Tryz.underlying67
  a53 := Tryz.isAgg67
  z53 := Tryz.sizeOf67
  v53 := Tryz.zeroValue67
  t131 := Tryz.underlying179
  a131 := Tryz.isAgg179
  z131 := Tryz.sizeOf179
  v131 := Tryz.zeroValue179
  t182 := Tryz.underlying174
  a182 := Tryz.isAgg174
  z182 := Tryz.sizeOf174
  v182 := Tryz.zeroValue174
  t183 := Tryz.underlying175
  a183 := Tryz.isAgg175
  z183 := Tryz.sizeOf175
  v183 := Tryz.zeroValue175
  t218 := Tryz.underlying188
  a218 := Tryz.isAgg188
  z218 := Tryz.sizeOf188
  v218 := Tryz.zeroValue188
  t222 := Tryz.underlying192
  a222 := Tryz.isAgg192
  z222 := Tryz.sizeOf192
  v222 := Tryz.zeroValue192
  t228 := Tryz.underlying196
  a228 := Tryz.isAgg196
  z228 := Tryz.sizeOf196
  v228 := Tryz.zeroValue196
  t229 := Tryz.underlying197
  a229 := Tryz.isAgg197
  z229 := Tryz.sizeOf197
  v229 := Tryz.zeroValue197 }
open Go.Sort Go.RowKit in
theorem Tryz.slices_Sort_int (blk off cap : Nat) (zs : List Int) (w : World) (hH : Holds (Value.int .i64) w blk off zs.toArray) (hblk : blk < w.heap.size) (hsz : zs.length < 4611686018427387904) :
    Calls Tryz.prog 163 #[.slice (some ⟨blk, off, none⟩) zs.length cap] w fun e w' =>
      e = .returned (.tuple #[]) ∧ ∃ n os, w' = grow (putRow (Value.int .i64) (Sort.ahead w n) blk off (zs.mergeSort fun x y => decide (x ≤ y)).toArray) os := Any.slices_Sort_int Tryz.lays189 blk off cap zs w hH hblk hsz
open Go.RowKit Go.Sort in
/-- .. and plain. (LAID: no walk: one application.) -/
theorem Tryz.slices_Sort_int_none (p : Option Addr) (cap : Nat) (w : World) :
    Calls Tryz.prog 163 #[.slice p 0 cap] w fun e w' => e = .returned (.tuple #[]) ∧ w' = w := Any.slices_Sort_int_none Tryz.lays189 p cap w
end Go.Proofs
/- walk.rises: states, rising; here of a row that holds each once. -/
namespace Go.Proofs.YtakldmbbmefnbaaGreat
open Go.RowKit

theorem encI_flat (xs : List Int) : xs.flatMap encI = xs.map (Value.int .i64) := by
  induction xs with
  | nil => rfl
  | cons x xs ih => rw [List.flatMap_cons, ih]; rfl

/-- The sort, on a row of one's own. -/
theorem sort_own (w : World) (base : Nat) (v : Value) (xs : List Int) (h : Own encI 1 3 w base v xs) (hl : xs.length ≤ 1000000) :
    Calls Tryz.prog 163 #[v] w fun e w' => e = .returned (.tuple #[]) ∧ Own encI 1 3 w' base v (xs.mergeSort (fun x y => decide (x ≤ y))) ∧ w.grownBy w' (blk v) := by
  rcases h with ⟨rfl, A, rfl⟩ | ⟨b, cap, cur, rfl, hb, hp, h1, h2, hg, hs, ht⟩
  · refine (Tryz.slices_Sort_int_none A 0 w).mono ?_
    rintro e w' ⟨rfl, rfl⟩
    exact ⟨rfl, by simpa using Own.nil A, ⟨rfl, rfl, rfl, Nat.le_refl _, fun _ _ _ => rfl⟩⟩
  · have ht' : cur.toList.take xs.length = xs.map (Value.int .i64) := by rw [← encI_flat, ← ht, Nat.mul_one]
    refine (Tryz.slices_Sort_int b 0 cap xs w (holds_of_blockI hg ht') (Array.getElem?_eq_some_iff.1 hg).1 (by omega)).mono ?_
    rintro e w' ⟨rfl, n, os, rfl⟩
    have hlen : (xs.mergeSort (fun x y => decide (x ≤ y))).length = xs.length := List.length_mergeSort ..
    refine ⟨rfl, .inr ⟨b, cap, _, by rw [hlen], hb, hp, by rw [hlen]; exact h1, h2, heap_sortedI _ hg, by simp [Sort.putCells]; simpa using hs, ?_⟩, ?_⟩
    · rw [encI_flat, Nat.mul_one]
      exact take_putCellsI cur _ (by rw [hlen]; omega)
    · obtain ⟨m, rfl⟩ : ∃ m, cap = m + 1 := ⟨cap - 1, by omega⟩
      exact grownBy_sortedI _

/-- Compact, on a row that rises: it is as it is. -/
theorem compact_strict (w : World) (v : Value) (xs : List Int) (h : Ints w w.heap.size v xs) (hs : Strict xs) (hl : xs.length ≤ 1000000) :
    Calls Tryz.prog 164 #[v] w fun e w' => e = .returned v ∧ Below w.heap.size w w' := by
  obtain ⟨A0, c, rfl, hr⟩ := id h
  clear h
  go_enter Tryz.func164, Tryz.ntmps164
  by_cases hlt : xs.length < 2
  · have hi : (xs.length : Int) < 2 := by omega
    clear hr
    go_wp2
    go_ret
    exact ⟨rfl, Below.refl _ _⟩
  · have hi : ¬ (xs.length : Int) < 2 := by omega
    go_wp2
    go_loopw [3] (fun i wr => ∃ k : Nat, k + 1 ≤ xs.length ∧ i = .int .i64 ((k : Int) + 1) ∧ Below w.heap.size w wr) (fun i _ => xs.length - (intOf i).toNat)
    case atStart => exact ⟨0, by omega, rfl, Below.refl _ _⟩
    case round =>
      obtain ⟨k, hk, rfl, hB⟩ := hrel
      by_cases hlk : k + 1 < xs.length
      · obtain ⟨b, o, rfl, hb, hc⟩ := hr (by omega)
        have hcell := (hB.cell (p := ⟨b, o + (k + 1), none⟩) hb).trans (cell1 encI_eq hc hlk)
        have hcell' := (hB.cell (p := ⟨b, o + k, none⟩) hb).trans (cell1 encI_eq hc (show k < xs.length by omega))
        have hne : (xs[k + 1] == xs[k]'(by omega)) = false := by
          have := List.pairwise_iff_getElem.1 hs k (k + 1) (by omega) hlk (by omega)
          simp; omega
        clear hr hc
        have hi2 : (k : Int) + 1 < xs.length := by omega
        have hi3 : (k : Int) < xs.length := by omega
        go_wp2
        go_quiet (fail)
        go_wp2
        go_roundw
        case rel => exact ⟨k + 1, by omega, by go_num, below_drewN hB _⟩
        case measure => simp [intOf]; omega
      · have hi2 : ¬ (k : Int) + 1 < xs.length := by omega
        clear hr
        go_wp2
        go_ret
        exact ⟨rfl, hB⟩

theorem Own.clip {α : Type} {enc : α → List Value} {size : Nat} {e : TypeId} {w : World} {base : Nat} {A : Option Addr} {n c : Nat} {xs : List α} (h : Own enc size e w base (.slice A n c) xs) : Own enc size e w base (.slice A n n) xs := by
  rcases h with ⟨rfl, A', h⟩ | ⟨b, cap, cur, hv, hb, hp, h1, h2, hg, hs, ht⟩
  · injection h with h1 h2 h3
    subst h2
    exact .inl ⟨rfl, _, rfl⟩
  · injection hv with h3 h4 h5
    subst h3; subst h4
    rcases Nat.eq_zero_or_pos xs.length with h0 | h0
    · have : xs = [] := List.eq_nil_of_length_eq_zero h0
      subst this
      exact .inl ⟨rfl, _, rfl⟩
    · exact .inr ⟨b, xs.length, cur, rfl, hb, h0, Nat.le_refl _, Nat.le_trans h1 h2, hg, Nat.le_trans (Nat.mul_le_mul_right _ h1) hs, ht⟩

theorem rises_ok (w : World) (v : Value) (xs : List Int) (h : Ints w w.heap.size v xs) (hn : xs.Nodup) (hl : xs.length ≤ 1000000) :
    Calls Tryz.prog 128 #[v] w fun e w' => ∃ v' ys, e = .returned v' ∧ Own encI 1 3 w' w.heap.size v' ys ∧ Below w.heap.size w w' ∧ Strict ys ∧ ∀ s, s ∈ ys ↔ s ∈ xs := by
  have hc := clone_int v xs w h hl
  have hst : Strict (xs.mergeSort (fun x y => decide (x ≤ y))) := by
    have h1 : (xs.mergeSort (fun x y => decide (x ≤ y))).Pairwise (fun a b => (decide (a ≤ b)) = true) := List.pairwise_mergeSort (by intro a b c; simp; omega) (by intro a b; simp; omega) xs
    have h2 : (xs.mergeSort (fun x y => decide (x ≤ y))).Nodup := (List.mergeSort_perm xs _).nodup_iff.2 hn
    refine (h1.and h2).imp ?_
    intro a b hab
    have := hab.1
    have := hab.2
    simp at *
    omega
  have hmem : ∀ s, s ∈ xs.mergeSort (fun x y => decide (x ≤ y)) ↔ s ∈ xs := fun s => List.mem_mergeSort
  have hlen : (xs.mergeSort (fun x y => decide (x ≤ y))).length = xs.length := List.length_mergeSort ..
  generalize hys : xs.mergeSort (fun x y => decide (x ≤ y)) = ys at hst hmem hlen
  obtain ⟨A0, c, rfl, _⟩ := id h
  go_enter Tryz.func128, Tryz.ntmps128
  go_wp2_with first
    | (go_at_call 11; refine hc.mono ?_; rintro e w1 ⟨v1, rfl, ho1, hb1⟩; obtain ⟨A1, c1, rfl, hle1⟩ := ho1.form)
    | (go_at_call 163; have hso := sort_own _ _ _ _ ho1 hl; rw [hys] at hso; refine hso.mono ?_; rintro e w2 ⟨rfl, ho2, hg2⟩)
    | (go_at_call 164; refine (compact_strict _ _ _ (ho2.sl encI_len) hst (by omega)).mono ?_; rintro e w3 ⟨rfl, hb3⟩)
  go_ret
  have h12 : Below w.heap.size w w2 := hb1.grown hg2 hb1.size (fun k hk => (ho1.lt k hk).1)
  refine ⟨_, ys, rfl, ?_, h12.trans (hb3.mono h12.size), hst, hmem⟩
  rw [← hlen]
  have := (ho2.below hb3).clip
  rwa [← hlen] at this
end Go.Proofs.YtakldmbbmefnbaaGreat
namespace Go.Proofs.YtakldmbbmefnbaaGreat
open Go.RowKit
set_option maxRecDepth 100000
set_option maxHeartbeats 2000000

attribute [local go_sem] Oper.semAt_some
theorem But.base {S : Nat → Prop} {a0 a w : World} (h : But S a w) (hb : Below a0.heap.size a0 a) (hs : ∀ k, S k → a0.heap.size ≤ k) : Below a0.heap.size a0 w :=
  ⟨h.os.trans hb.os, h.tape.trans hb.tape, h.output.trans hb.output, Nat.le_trans hb.size h.size, fun k hk => (h.block k (Nat.lt_of_lt_of_le hk hb.size) (fun e => Nat.lt_irrefl k (Nat.lt_of_lt_of_le hk (hs k e)))).trans (hb.block k hk)⟩
theorem But.near {S : Nat → Prop} {a w w' : World} {B : Nat} (h : But S a w) (hn : Near B w w') (hB : a.heap.size ≤ B) : But S a w' :=
  ⟨hn.os.trans h.os, hn.tape.trans h.tape, hn.output.trans h.output, Nat.le_trans h.size hn.size, fun k hk hs => by
    have hlt : k < a.heap.size := hk
    have ho : w.heap[k]? = some a.heap[k] := (h.block k hk hs).trans (Array.getElem?_eq_getElem hlt)
    rw [hn.block k _ ho (.inl (by omega)), Array.getElem?_eq_getElem hlt]⟩
theorem getD_ff {L : Array Bool} {i : Nat} (h : L.getD i true = false) : L.getD i false = false := by
  by_cases hi : i < L.size
  · simpa [Array.getD, hi] using h
  · simp [Array.getD, hi] at h
theorem getD_set_eq {L : Array Bool} {i : Nat} {d : Bool} (h : i < L.size) : (L.setIfInBounds i true).getD i d = true := by simp [h]
theorem getD_set_ne {L : Array Bool} {i j : Nat} {d : Bool} (h : i ≠ j) : (L.setIfInBounds i true).getD j d = L.getD j d := by
  simp only [Array.getD_eq_getD_getElem?]
  rw [Array.getElem?_setIfInBounds_ne h]
theorem stepIn_yes {F : Fence} {n : Nat} {P : Program} {ops : Array Oper} {Q : Exit → Act → World → Prop} {S : World → Prop} {fin : Act} {o : Oper} {w : World} (hw : Region.wanted o (yielded ops fin.tmps) = true)
    (h1 : ∀ f, o.about P w fin.eval = some f → F.fn f) (h2 : ∀ (a : Act) (K : Act → World → Prop), (∀ w', S w' → K (a.put o.dst (valOf fin o)) w') → o.uponIn F n P a K Q ((o.semAt F.round fin.eval).run P w)) : stepIn F n P ops Q S fin o w := by
  unfold stepIn
  rw [if_pos hw]
  exact ⟨h1, h2⟩
theorem uponIn_append {F : Fence} {n : Nat} {P : Program} {Q : Exit → Act → World → Prop} {o : Oper} {a : Act} {K : Act → World → Prop} {w w1 : World} {ρ : Operand → Value} (s x : Operand) (t : TypeId)
    (ho : o.op = .call { callee := .builtin .append, args := #[s, x], argTypes := #[t, t] }) {v y v' : Value} (hs : ρ s = v) (hy : ρ x = y) (hrun : (Builtin.append_ #[t, t] o.type #[v, y]).run P w = .ok v' w1) (hK : K (a.put o.dst v') w1) : o.uponIn F n P a K Q ((o.semAt F.round ρ).run P w) := by
  rw [Oper.semAt_plain F _ _ (by rw [ho]; intro c hc'; cases hc')]
  simp [execOp, ho, resolve, invoke, builtin, hs, hy, hrun, Result.andThen]
  exact hK
theorem marks_nil (n : Nat) : ((marks n []).map Value.bool).toArray = madeCells #[Value.bool false] n := by
  have h : (madeCells #[Value.bool false] n) = (List.replicate n (.bool false)).toArray := by rw [← toList_madeCells_one]
  rw [h]
  congr 1
  apply List.ext_getElem?
  intro j
  by_cases hj : j < n
  · simp [marks, hj]
  · simp [marks, hj]
theorem Own.at_ {e : TypeId} {w : World} {base : Nat} {v : Value} {xs : List Int} (h : Own encI 1 e w base v xs) (h0 : 0 < xs.length) : ∃ b c, v = .slice (some ⟨b, 0, none⟩) xs.length c ∧ blk v = some b ∧ ∀ k (h : k < xs.length), w.cell? ⟨b, k, none⟩ = some (.int .i64 xs[k]) := by
  rcases h with ⟨rfl, _⟩ | ⟨b, cap, cur, rfl, hb, hp, h1, h2, hg, hs, ht⟩
  · exact absurd h0 (Nat.lt_irrefl 0)
  · refine ⟨b, cap, rfl, by obtain ⟨m, rfl⟩ : ∃ m, cap = m + 1 := ⟨cap - 1, by omega⟩; rfl, fun k hk => ?_⟩
    rw [cell_at hg k, ← Array.getElem?_toList]
    rw [Nat.mul_one, encI_flat] at ht
    have h3 : (cur.toList.take xs.length)[k]? = (xs.map (Value.int .i64))[k]? := by rw [ht]
    rw [List.getElem?_take_of_lt hk] at h3
    rw [h3]
    simp [hk]
theorem below_putObj {B : Nat} {w w' : World} (h : Below B w w') {b : Nat} (hb : B ≤ b) (o : Obj) : Below B w (w'.putObj b o) :=
  ⟨h.os, h.tape, h.output, by simpa using h.size, fun k hk => (World.putObj_heap_other (by omega)).trans (h.block k hk)⟩
theorem Own.putObj {α : Type} {enc : α → List Value} {size : Nat} {e : TypeId} {w : World} {base : Nat} {v : Value} {xs : List α} (h : Own enc size e w base v xs) {b : Nat} (o : Obj) {ds : Option (List Deferred)} (hb : w.heap[b]? = some (.deferred ds)) : Own enc size e (w.putObj b o) base v xs := by
  refine h.kept (row := some b) ⟨rfl, rfl, rfl, by simp, fun k hk hne => World.putObj_heap_other (fun e => hne (by rw [e]))⟩ (fun k hk e => ?_)
  obtain ⟨o', ho', hc⟩ := h.ctl k hk
  cases e
  rw [hb] at ho'
  cases ho'
  simp [isCtl] at hc
theorem grown_ok (b : Nat) (a : A) (vs vf ve vl fv : Value) (l : List Int) (back : Bool) (p : E → Bool) (w : World) (hk : Wk w b a vs vf ve) (ha : a.ok = true) (hl : Ints w w.heap.size vl l) (hlo : l.all (inB a.states) = true)
    (hp : Pred1 Tryz.prog vE fv (fun _ => True) p w) (hst : a.states ≤ 1000) (hll : l.length ≤ 1000000) (hne : a.edges.length ≤ 1000000) :
    Calls Tryz.prog 68 #[pw b, vl, .bool back, fv] w (fun r w' => ∃ v', r = .returned v' ∧ Own encI 1 3 w' w.heap.size v' (cl a.states.toNat (a.pairs back p) l) ∧ Below w.heap.size w w') := by
  obtain ⟨n, hn⟩ : ∃ n : Nat, a.states = n := ⟨a.states.toNat, by simp [A.ok] at ha; omega⟩
  obtain ⟨i1, hi1, hz1, hs1, hb1⟩ := info_parts info_ints
  obtain ⟨i2, hi2, hz2, hs2, hb2⟩ := info_parts info_bool
  obtain ⟨g, lb, rfl, hen, hpc⟩ := id hp
  obtain ⟨A0, c, rfl, hr⟩ := id hl
  have c0 := hk.c0
  have hlt := hk.lt
  rw [hn] at c0
  refine callsIn_wide.1 (callsIn_of_wp_marks (n := 0) Tryz.func68 rfl trivial ?_ rfl)
  simp only [Tryz.ntmps68, List.size_toArray, List.length_cons, List.length_nil, Nat.reduceAdd, Nat.reduceSub, Array.replicate_succ, Array.replicate_zero, List.push_toArray, List.append_toArray, List.nil_append, List.cons_append]
  have hwf : ∀ f, Fence.wide.fn f := fun _ => trivial
  have hwd : Fence.wide.depth = none := rfl
  have hk0 := hk
  have hp0 := hp
  have hlr := Lib.hid hr
  clear hp hpc hr hl hk
  have hB1 : i2.bytes * n ≤ 281474976710656 := by rw [hb2]; omega
  have hB2 : i1.bytes * n ≤ 281474976710656 := by rw [hb1]; omega
  have hN : n ≤ 4611686018427387904 := by omega
  obtain ⟨W1, hW1⟩ : ∃ W1, w.alloc (.cells #[.bool back] 4) = W1 := ⟨_, rfl⟩
  obtain ⟨W2, hW2⟩ : ∃ W2, W1.alloc (.cells (madeCells #[Value.bool false] n) 4) = W2 := ⟨_, rfl⟩
  obtain ⟨W3, hW3⟩ : ∃ W3, W2.alloc (.cells #[.slice (some ⟨W1.heap.size, 0, none⟩) n n] 87) = W3 := ⟨_, rfl⟩
  obtain ⟨W4, hW4⟩ : ∃ W4, W3.alloc (.cells (madeCells #[Value.slice none 0 0] n) 22) = W4 := ⟨_, rfl⟩
  obtain ⟨W5, hW5⟩ : ∃ W5, W4.alloc (.cells #[.slice (some ⟨W3.heap.size, 0, none⟩) n n] 45) = W5 := ⟨_, rfl⟩
  have d1 : Below w.heap.size w W1 := hW1 ▸ alloc1 w _
  have d2 : Below W1.heap.size W1 W2 := hW2 ▸ alloc1 W1 _
  have d3 : Below W2.heap.size W2 W3 := hW3 ▸ alloc1 W2 _
  have d4 : Below W3.heap.size W3 W4 := hW4 ▸ alloc1 W3 _
  have d5 : Below W4.heap.size W4 W5 := hW5 ▸ alloc1 W4 _
  have e1 := (d1.cell (p := ⟨b, 0, none⟩) hlt).trans c0
  have e2 := (d2.cell (p := ⟨b, 0, none⟩) (World.block_lt_of_cell? _ _ e1)).trans e1
  have e3 := (d3.cell (p := ⟨b, 0, none⟩) (World.block_lt_of_cell? _ _ e2)).trans e2
  refine (wpIn_wide (n := 0)).2 ?_
  go_wp2_with first
    | (at_make; refine wpList_make_z _ rfl _ _ 87 rfl _ i2 _ 1 Tryz.underlying87 hi2 hz2 hs2 n rfl rfl hB1 hN ?_)
    | (at_make; refine wpList_make_z _ rfl _ _ 45 rfl _ i1 _ 1 Tryz.underlying45 hi1 hz1 hs1 n rfl rfl hB2 hN ?_)
    | (go_at_call 126; refine (edges_ok b g lb _).mono ?_; rintro e w2 ⟨rfl, rfl⟩)
  obtain ⟨W6, hW6⟩ : ∃ W6, (W5.alloc (.cells #[pw b] 91)).alloc (.cells #[.func (.func g) #[] lb] 95) = W6 := ⟨_, rfl⟩
  have d6 : Below W5.heap.size W5 W6 := hW6 ▸ below_next (alloc1 W5 _) (alloc1 _ _)
  have s5 : W5.heap.size = W4.heap.size + 1 := by rw [← hW5]; simp
  have s4 : W4.heap.size = W3.heap.size + 1 := by rw [← hW4]; simp
  have s3 : W3.heap.size = W2.heap.size + 1 := by rw [← hW3]; simp
  have s2 : W2.heap.size = W1.heap.size + 1 := by rw [← hW2]; simp
  have s1 : W1.heap.size = w.heap.size + 1 := by rw [← hW1]; simp
  have s6 : W6.heap.size = W5.heap.size + 2 := by rw [← hW6]; simp
  have f1 : W6.heap[w.heap.size]? = some (.cells #[.bool back] 4 (0, 0)) := by
    rw [d6.block _ (by omega), d5.block _ (by omega), d4.block _ (by omega), d3.block _ (by omega), d2.block _ (by omega), ← hW1]; exact heap_alloc_new w _
  have f2 : W6.heap[W1.heap.size]? = some (.cells (madeCells #[Value.bool false] n) 4 (0, 0)) := by
    rw [d6.block _ (by omega), d5.block _ (by omega), d4.block _ (by omega), d3.block _ (by omega), ← hW2]; exact heap_alloc_new W1 _
  have f3 : W6.heap[W2.heap.size]? = some (.cells #[.slice (some ⟨W1.heap.size, 0, none⟩) n n] 87 (0, 0)) := by
    rw [d6.block _ (by omega), d5.block _ (by omega), d4.block _ (by omega), ← hW3]; exact heap_alloc_new W2 _
  have f4 : W6.heap[W3.heap.size]? = some (.cells (madeCells #[Value.slice none 0 0] n) 22 (0, 0)) := by
    rw [d6.block _ (by omega), d5.block _ (by omega), ← hW4]; exact heap_alloc_new W3 _
  have f5 : W6.heap[W4.heap.size]? = some (.cells #[.slice (some ⟨W3.heap.size, 0, none⟩) n n] 45 (0, 0)) := by
    rw [d6.block _ (by omega), ← hW5]; exact heap_alloc_new W4 _
  have f6 : W6.heap[W5.heap.size]? = some (.cells #[pw b] 91 (0, 0)) := by
    rw [← hW6, Below.heap_alloc _ _ _ (by simp)]; exact heap_alloc_new W5 _
  have f7 : W6.heap[W5.heap.size + 1]? = some (.cells #[.func (.func g) #[] lb] 95 (0, 0)) := by
    rw [← hW6]; have := heap_alloc_new (W5.alloc (.cells #[pw b] 91)) (.cells #[.func (.func g) #[] lb] 95); rwa [World.size_alloc] at this
  have d : Below w.heap.size w W6 := below_next d1 (below_next d2 (below_next d3 (below_next d4 (below_next d5 d6))))
  refine (wpIn_wide (n := 0)).1 ?_
  refine wp_rangeFunc_iter (gf := 162) (lb := #[pw W5.heap.size, pw (W5.heap.size + 1)]) rfl Tryz.call162
    (edges_iter b W5.heap.size (W5.heap.size + 1) (.func (.func g) #[] lb) a vs vf ve p w hk0 hp0 hne) ?ps
    (fun k W => But (fun j => j = W3.heap.size) W6 W ∧ ∃ rows, Rows W W6.heap.size W3.heap.size n rows (((a.edges.filter p).take k).map (turned back)))
    (fun _ _ => False) ?hI (fun _ _ _ h => h.elim) ?hD ?h0 ?hround ?hdone (fun _ _ _ _ h => h.elim)
  case ps => intro x hx; obtain ⟨e, _, rfl⟩ := List.mem_map.1 hx; rfl
  case hI =>
    rintro k W W' ⟨hb, rows, hr⟩ hn
    rw [hW6] at hn
    exact ⟨hb.near hn (Nat.le_refl _), rows, hr.near hn⟩
  case hD =>
    rintro k W ⟨hb, rows, hr⟩
    refine ⟨hb.base d (fun k e => by omega), ?_, ?_⟩
    · exact cell_at (hb.heap f6 (by omega)) 0
    · exact cell_at (hb.heap f7 (by omega)) 0
  case h0 =>
    rw [hW6]
    exact ⟨But.refl _ _, _, rows_start f4⟩
  case hround =>
    rintro L k hk W ⟨hb, rows, hr⟩
    have hk' : k < (a.edges.filter p).length := by simpa using hk
    rw [List.getElem_map]
    generalize hE : (a.edges.filter p)[k] = ed
    have hmem : ed ∈ a.edges := by rw [← hE]; exact (List.mem_filter.1 (List.getElem_mem hk')).1
    unfold fromTo
    have HSS := Lib.hid (And.intro s1 (And.intro s2 (And.intro s3 (And.intro s4 (And.intro s5 s6)))))
    clear s1 s2 s3 s4 s5 s6
    gi_wp2
    refine ⟨KeepC.refl _, fun W8 hn2 => ?_⟩
    obtain ⟨s1, s2, s3, s4, s5, s6⟩ := HSS.out
    have hb2 := hb.near hn2 (by rw [hW6]; exact Nat.le_refl _)
    obtain ⟨ps, hps⟩ : ∃ ps, ((a.edges.filter p).take k).map (turned back) = ps := ⟨_, rfl⟩
    have hpl : ps.length ≤ 1000000 := by
      rw [← hps, List.length_map, List.length_take]
      have := List.length_filter_le p a.edges
      omega
    have hr2 := hr.near hn2
    rw [hps] at hr2
    have q1 := cell_at (hb2.heap f1 (by omega)) 0
    have q2 := cell_at (hb2.heap f5 (by omega)) 0
    simp only [List.getElem?_toArray, List.getElem?_cons_zero] at q1 q2
    clear hb hr hn2
    have hnx : ∀ h : k < (a.edges.filter p).length, ((a.edges.filter p).take (k + 1)).map (turned back) = ps ++ [turned back ed] := by
      intro h
      rw [List.take_succ_eq_append_getElem h, List.map_append, hps, hE]; rfl
    have hnx := hnx hk'
    have hbd : ed.src < n ∧ 0 ≤ ed.src ∧ ed.dst < n ∧ 0 ≤ ed.dst := by
      simp only [A.ok, Bool.and_eq_true, List.all_eq_true] at ha
      have := ha.2 ed hmem
      simp [mayE, inB, hn] at this
      omega
    obtain ⟨es, hes⟩ : ∃ es, es = a.edges := ⟨_, rfl⟩
    obtain ⟨ex, ey, ef, eset⟩ := ed
    simp only at hbd
    obtain ⟨x, rfl⟩ : ∃ x : Nat, ex = x := ⟨ex.toNat, by omega⟩
    obtain ⟨y, rfl⟩ : ∃ y : Nat, ey = y := ⟨ey.toNat, by omega⟩
    obtain ⟨hxn, _, hyn, _⟩ := hbd
    have hxn : x < n := by omega
    have hyn : y < n := by omega
    have HNX := Lib.hid hnx
    clear hnx hes hmem hE hk' hps
    have HSS := Lib.hid (And.intro s1 (And.intro s2 (And.intro s3 (And.intro s4 (And.intro s5 s6)))))
    clear s1 s2 s3 s4 s5 s6 f1 f2 f3 f4 f6 f7 d1 d2 d3 d4 d5 d6 e1 e2 e3 c0 hW1 hW2 hW3 hW4 hW5 hk0 hp0 hlt d
    cases back with
    | false =>
      have hxl : x < rows.length := by rw [hr2.len]; omega
      have hown := hr2.own x hxl
      obtain ⟨A1, c1, hrow, hle1⟩ := hown.form
      have hgn := cell_at hr2.g x
      have hr2g := hr2.g
      have h5b := hb2.heap f5 (show ¬ W4.heap.size = W3.heap.size by have := HSS.out; omega)
      rw [List.getElem?_toArray, List.getElem?_eq_getElem hxl, hrow] at hgn
      have hlt2 := World.block_lt_of_cell? _ _ q2
      have hlt3 := World.block_lt_of_cell? _ _ hgn
      have h5 : ((ps.length + 1 : Nat) : Int) ≤ 1000001 := by omega
      have hnl := nexts_len ps x
      have hbyt : (4 * ((nexts ps x).length + 1) + 4096) * 8 ≤ 140737488355328 := by omega
      have hwl2 : (nexts ps x).length + 1 ≤ 4611686018427387904 := by omega
      have hW2s : W6.heap.size ≤ W8.heap.size := hb2.size
      have hlen := hr2.len
      have HR := Lib.hid (And.intro hr2 hb2)
      have HN := Lib.hid (And.intro hnl (And.intro hle1 hxl))
      clear hr2 hb2 hnl hle1 hlen
      have blk8 : ∀ v w', (Own encI 1 3 w' W6.heap.size v (nexts ps x ++ [(y : Int)]) ∧ (W8.drew.alloc (.cells #[.int .i64 (y : Nat)] 3)).grownBy w' (blk rows[x]) ∧ (blk v = blk rows[x] ∨ (∃ k, W8.heap.size + 1 ≤ k ∧ blk v = some k) ∨ blk v = none)) → w'.heap[W4.heap.size]? = W8.heap[W4.heap.size]? ∧ w'.heap[W3.heap.size]? = W8.heap[W3.heap.size]? := by
        rintro v w' ⟨_, hg, _⟩
        constructor
        · rw [hg.block _ (Nat.lt_of_lt_of_le (show W4.heap.size < W8.drew.heap.size from hlt2) (by simp)) (fun e => own_ne hown h5b (by decide) e.symm), Below.heap_alloc _ _ _ (show W4.heap.size < W8.drew.heap.size from hlt2)]; rfl
        · rw [hg.block _ (Nat.lt_of_lt_of_le (show W3.heap.size < W8.drew.heap.size from hlt3) (by simp)) (fun e => own_ne hown hr2g (by decide) e.symm), Below.heap_alloc _ _ _ (show W3.heap.size < W8.drew.heap.size from hlt3)]; rfl
      have after8 : ∀ v w', (Own encI 1 3 w' W6.heap.size v (nexts ps x ++ [(y : Int)]) ∧ (W8.drew.alloc (.cells #[.int .i64 (y : Nat)] 3)).grownBy w' (blk rows[x]) ∧ (blk v = blk rows[x] ∨ (∃ k, W8.heap.size + 1 ≤ k ∧ blk v = some k) ∨ blk v = none)) → w'.cell? ⟨W4.heap.size, 0, none⟩ = some (.slice (some ⟨W3.heap.size, 0, none⟩) n n) ∧ w'.cell? ⟨W3.heap.size, x, none⟩ = some (.slice A1 (nexts ps x).length c1) := by
        intro v w' hS
        obtain ⟨h1, h2⟩ := blk8 v w' hS
        exact ⟨(World.cell?_of_block h1).trans q2, (World.cell?_of_block h2).trans hgn⟩
      have frz8 : ∀ v w', (Own encI 1 3 w' W6.heap.size v (nexts ps x ++ [(y : Int)]) ∧ (W8.drew.alloc (.cells #[.int .i64 (y : Nat)] 3)).grownBy w' (blk rows[x]) ∧ (blk v = blk rows[x] ∨ (∃ k, W8.heap.size + 1 ≤ k ∧ blk v = some k) ∨ blk v = none)) → w'.frozen? ⟨W3.heap.size, x, none⟩ = false := by
        intro v w' hS
        exact free_at ((blk8 v w' hS).2.trans hr2g) x
      gi_wp2_with fail
      refine wpIn_region_eff (by kernel_rfl) 8 (fun i => i != 8 && i != 10)
        (fun L w' => if L.getD 7 false = true then w' = W8.drew.alloc (.cells #[.int .i64 (y : Nat)] 3) else w' = W8.drew)
        (fun v w' => Own encI 1 3 w' W6.heap.size v (nexts ps x ++ [(y : Int)]) ∧ (W8.drew.alloc (.cells #[.int .i64 (y : Nat)] 3)).grownBy w' (blk rows[x]) ∧ (blk v = blk rows[x] ∨ (∃ k, W8.heap.size + 1 ≤ k ∧ blk v = some k) ∨ blk v = none))
        (fun v w' => ∃ w1, (Own encI 1 3 w1 W6.heap.size v (nexts ps x ++ [(y : Int)]) ∧ (W8.drew.alloc (.cells #[.int .i64 (y : Nat)] 3)).grownBy w1 (blk rows[x]) ∧ (blk v = blk rows[x] ∨ (∃ k, W8.heap.size + 1 ≤ k ∧ blk v = some k) ∨ blk v = none)) ∧ w' = w1.setCell ⟨W3.heap.size, x, none⟩ v)
        (fun v => { tmps := #[pw b, .slice A0 l.length c, .bool false, .func (.func g) #[] lb, undef, undef, .pointer (some ⟨w.heap.size, 0, none⟩), undef, .slice none 0 0, .pointer (some ⟨W2.heap.size, 0, none⟩), .pointer (some ⟨W4.heap.size, 0, none⟩), .int .i64 (x : Nat), .int .i64 (y : Nat), undef, undef, undef, undef, undef, undef, undef, pw b, .pointer (some ⟨b, 0, none⟩), .pointer (some ⟨b, 0, none⟩), .pointer (some ⟨b, 0, none⟩), .int .i64 (n : Nat), .slice (some ⟨W1.heap.size, 0, none⟩) n n, pw b, .pointer (some ⟨b, 0, none⟩), .pointer (some ⟨b, 0, none⟩), .pointer (some ⟨b, 0, none⟩), .int .i64 (n : Nat), .slice (some ⟨W3.heap.size, 0, none⟩) n n, pw b, .func (.func g) #[] lb, .func (.func 162) #[] #[pw W5.heap.size, pw (W5.heap.size + 1)], .int .i64 (x : Nat), .int .i64 (y : Nat), .bool false, undef, undef, .slice (some ⟨W3.heap.size, 0, none⟩) n n, .int .i64 (x : Nat), .slice (some ⟨W3.heap.size, 0, none⟩) n n, .int .i64 (x : Nat), .pointer (some ⟨W3.heap.size, x, none⟩), .slice A1 (nexts ps x).length c1, .int .i64 (y : Nat), .slice (some ⟨W8.heap.size, 0, none⟩) 1 1, v, .pointer (some ⟨W3.heap.size, x, none⟩), undef, undef, undef, undef, undef, undef, undef, undef, undef, undef, undef, undef, undef, undef, undef, undef, undef, undef, undef, undef, undef, undef, undef, undef, undef, undef, undef, undef, undef, undef, undef, undef, undef, undef, undef], defers := [] })
        (by kernel_rfl) (by kernel_rfl) (by kernel_rfl) (by kernel_rfl) (by decide) rfl rfl ?hfin (fun _ => rfl) ?hsame ?hval ?h0 ?hstep0 ?hstepe ?hstep1 ?hlast ?hlw ?hend
      case hfin => intro v; kernel_rfl
      case hsame =>
        intro v v' i o hi hpi
        have hi11 : i < 11 := (Array.getElem?_eq_some_iff.1 hi).1
        obtain rfl | rfl | rfl | rfl | rfl | rfl | rfl | rfl | rfl | rfl | rfl : i = 0 ∨ i = 1 ∨ i = 2 ∨ i = 3 ∨ i = 4 ∨ i = 5 ∨ i = 6 ∨ i = 7 ∨ i = 8 ∨ i = 9 ∨ i = 10 := by omega
        all_goals first
          | (cases hi; rfl)
          | exact absurd hpi (by decide)
      case hval => intro v o ho; cases ho; rfl
      case h0 => exact rfl
      case hstep0 =>
        intro i o hi hpi L v w' hLs hLi hS
        have hc : w'.cell? ⟨W4.heap.size, 0, none⟩ = some (.slice (some ⟨W3.heap.size, 0, none⟩) n n) ∧ w'.cell? ⟨W3.heap.size, x, none⟩ = some (.slice A1 (nexts ps x).length c1) := by
          split at hS
          · subst hS
            exact ⟨((alloc1 W8.drew _).cell (p := ⟨W4.heap.size, 0, none⟩) hlt2).trans q2, ((alloc1 W8.drew _).cell (p := ⟨W3.heap.size, x, none⟩) hlt3).trans hgn⟩
          · subst hS
            exact ⟨q2, hgn⟩
        obtain ⟨hc1, hc2⟩ := hc
        have hi11 : i < 11 := (Array.getElem?_eq_some_iff.1 hi).1
        by_cases h7 : i = 7
        · subst h7
          cases hi
          have h7f : L.getD 7 false = false := getD_ff hLi
          rw [h7f] at hS
          simp only [Bool.false_eq_true, if_false] at hS
          subst hS
          refine ⟨stepIn_yes rfl (fun f _ => trivial) ?_, fun h => Bool.noConfusion (h : true = false)⟩
          intro a K hK
          have hset : (L.setIfInBounds 7 true).getD 7 false = true := getD_set_eq (by rw [hLs]; decide)
          go_simp
          exact hK _ (by rw [if_pos hset]; rfl)
        · have hset : (L.setIfInBounds i true).getD 7 false = L.getD 7 false := getD_set_ne (fun h => h7 h)
          rw [← hset] at hS
          obtain rfl | rfl | rfl | rfl | rfl | rfl | rfl | rfl | rfl | rfl | rfl : i = 0 ∨ i = 1 ∨ i = 2 ∨ i = 3 ∨ i = 4 ∨ i = 5 ∨ i = 6 ∨ i = 7 ∨ i = 8 ∨ i = 9 ∨ i = 10 := by omega
          all_goals first
            | exact absurd hpi (by decide)
            | exact absurd rfl h7
            | skip
          all_goals
            cases hi
            refine ⟨stepIn_yes rfl (fun f _ => trivial) ?_, fun h => Bool.noConfusion (h : true = false)⟩
            intro a K hK
            go_simp
            exact hK _ hS
      case hstepe =>
        intro o ho L v w' hd hS
        cases ho
        have h7 : L.getD 7 false = true := hd { on := 7, ground := Ground.data } (by simp) rfl
        rw [if_pos h7] at hS
        subst hS
        refine ⟨rfl, fun f _ => trivial, ?_⟩
        intro a K hK
        have hi0 := info_parts info_int
        obtain ⟨i0, hi, hz0, hz1, hz2⟩ := hi0
        have hown2 : Own encI 1 3 (W8.drew.alloc (.cells #[.int .i64 (y : Nat)] 3)) W6.heap.size (.slice A1 (nexts ps x).length c1) (nexts ps x) := by
          have := hown.below (w' := W8.drew.alloc (.cells #[.int .i64 (y : Nat)] 3)) ((Below.refl _ W8).drew.alloc (Nat.le_refl _) _)
          rwa [hrow] at this
        obtain ⟨v', w1, hrun, ho1, hg1, hb1⟩ := run_append_my (P := Tryz.prog) (W8.drew.alloc (.cells #[.int .i64 (y : Nat)] 3)) encI_len encI_one 22 22 3 i0 _ Tryz.underlying22 hi hz0 hz1 hz2 rfl (by decide) hown2
          (Sl_one (enc := encI) (size := 1) W8.drew (y : Int) 3 1) hbyt hwl2 (by simp; omega)
        refine uponIn_append (.tmp 45) (.tmp 47) 22 rfl rfl rfl hrun (hK _ _ ⟨ho1, ?_, ?_⟩)
        · rw [hrow]; exact hg1
        rw [hrow]
        rcases hb1 with hb1 | hb1 | hb1
        · exact .inl hb1
        · exact .inr (.inl ⟨_, by simp, hb1⟩)
        · exact .inr (.inr hb1)
      case hstep1 =>
        intro i o hi hie hil hnd v w' hS
        obtain ⟨hc1, hc2⟩ := after8 v w' hS
        have h7 : i ≠ 7 := by rintro rfl; exact absurd (hnd.symm.trans (by kernel_rfl : _ = true)) (by decide)
        have hi11 : i < 11 := (Array.getElem?_eq_some_iff.1 hi).1
        obtain rfl | rfl | rfl | rfl | rfl | rfl | rfl | rfl | rfl | rfl | rfl : i = 0 ∨ i = 1 ∨ i = 2 ∨ i = 3 ∨ i = 4 ∨ i = 5 ∨ i = 6 ∨ i = 7 ∨ i = 8 ∨ i = 9 ∨ i = 10 := by omega
        all_goals first
          | exact absurd rfl h7
          | exact absurd rfl hie
          | exact absurd rfl hil
          | skip
        all_goals
          cases hi
          refine stepIn_yes rfl (fun f _ => trivial) ?_
          intro a K hK
          go_simp
          exact hK _ hS
      case hlast =>
        intro o ho v w' hS
        cases ho
        obtain ⟨hc1, hc2⟩ := after8 v w' hS
        have hc3 : w'.frozen? ⟨W3.heap.size, x, none⟩ = false := frz8 v w' hS
        obtain ⟨A2, c2, rfl, _⟩ := hS.1.form
        refine stepIn_yes rfl (fun f _ => trivial) ?_
        intro a K hK
        go_simp
        exact hK _ ⟨w', hS, by simp⟩
      case hlw => intro v; rfl
      case hend =>
        rintro v w' ⟨w1, hS, rfl⟩
        gi_wp2
        obtain ⟨hr2, hb2⟩ := HR.out
        obtain ⟨ho, hg, hv⟩ := hS
        have hba : Below W8.heap.size W8 (W8.drew.alloc (.cells #[.int .i64 (y : Nat)] 3)) := (Below.refl _ W8).drew.alloc (Nat.le_refl _) _
        have hown2 := hown.below hba
        refine ⟨((KeepC.of_below hba).grown hg hown2.ctl).setCell _ _, ?_, rows.set x v, ?_⟩
        · exact ((hb2.drew.alloc _).trans (But.of_grown hg) (fun k hk e => absurd (hown2.lt k e).1 (by omega))).setCell (fun _ => rfl) _
        · rw [HNX.out]
          exact (hr2.near (Near.of_below (B := 0) hba)).put HN.out.2.2 ho hg (by simpa using hv)
    | true =>
      have hxl : y < rows.length := by rw [hr2.len]; omega
      have hown := hr2.own y hxl
      obtain ⟨A1, c1, hrow, hle1⟩ := hown.form
      have hgn := cell_at hr2.g y
      have hr2g := hr2.g
      have h5b := hb2.heap f5 (show ¬ W4.heap.size = W3.heap.size by have := HSS.out; omega)
      rw [List.getElem?_toArray, List.getElem?_eq_getElem hxl, hrow] at hgn
      have hlt2 := World.block_lt_of_cell? _ _ q2
      have hlt3 := World.block_lt_of_cell? _ _ hgn
      have h5 : ((ps.length + 1 : Nat) : Int) ≤ 1000001 := by omega
      have hnl := nexts_len ps y
      have hbyt : (4 * ((nexts ps y).length + 1) + 4096) * 8 ≤ 140737488355328 := by omega
      have hwl2 : (nexts ps y).length + 1 ≤ 4611686018427387904 := by omega
      have hW2s : W6.heap.size ≤ W8.heap.size := hb2.size
      have hlen := hr2.len
      have HR := Lib.hid (And.intro hr2 hb2)
      have HN := Lib.hid (And.intro hnl (And.intro hle1 hxl))
      clear hr2 hb2 hnl hle1 hlen
      have blk8 : ∀ v w', (Own encI 1 3 w' W6.heap.size v (nexts ps y ++ [(x : Int)]) ∧ (W8.drew.alloc (.cells #[.int .i64 (x : Nat)] 3)).grownBy w' (blk rows[y]) ∧ (blk v = blk rows[y] ∨ (∃ k, W8.heap.size + 1 ≤ k ∧ blk v = some k) ∨ blk v = none)) → w'.heap[W4.heap.size]? = W8.heap[W4.heap.size]? ∧ w'.heap[W3.heap.size]? = W8.heap[W3.heap.size]? := by
        rintro v w' ⟨_, hg, _⟩
        constructor
        · rw [hg.block _ (Nat.lt_of_lt_of_le (show W4.heap.size < W8.drew.heap.size from hlt2) (by simp)) (fun e => own_ne hown h5b (by decide) e.symm), Below.heap_alloc _ _ _ (show W4.heap.size < W8.drew.heap.size from hlt2)]; rfl
        · rw [hg.block _ (Nat.lt_of_lt_of_le (show W3.heap.size < W8.drew.heap.size from hlt3) (by simp)) (fun e => own_ne hown hr2g (by decide) e.symm), Below.heap_alloc _ _ _ (show W3.heap.size < W8.drew.heap.size from hlt3)]; rfl
      have after8 : ∀ v w', (Own encI 1 3 w' W6.heap.size v (nexts ps y ++ [(x : Int)]) ∧ (W8.drew.alloc (.cells #[.int .i64 (x : Nat)] 3)).grownBy w' (blk rows[y]) ∧ (blk v = blk rows[y] ∨ (∃ k, W8.heap.size + 1 ≤ k ∧ blk v = some k) ∨ blk v = none)) → w'.cell? ⟨W4.heap.size, 0, none⟩ = some (.slice (some ⟨W3.heap.size, 0, none⟩) n n) ∧ w'.cell? ⟨W3.heap.size, y, none⟩ = some (.slice A1 (nexts ps y).length c1) := by
        intro v w' hS
        obtain ⟨h1, h2⟩ := blk8 v w' hS
        exact ⟨(World.cell?_of_block h1).trans q2, (World.cell?_of_block h2).trans hgn⟩
      have frz8 : ∀ v w', (Own encI 1 3 w' W6.heap.size v (nexts ps y ++ [(x : Int)]) ∧ (W8.drew.alloc (.cells #[.int .i64 (x : Nat)] 3)).grownBy w' (blk rows[y]) ∧ (blk v = blk rows[y] ∨ (∃ k, W8.heap.size + 1 ≤ k ∧ blk v = some k) ∨ blk v = none)) → w'.frozen? ⟨W3.heap.size, y, none⟩ = false := by
        intro v w' hS
        exact free_at ((blk8 v w' hS).2.trans hr2g) y
      gi_wp2_with fail
      refine wpIn_region_eff (by kernel_rfl) 8 (fun i => i != 8 && i != 10)
        (fun L w' => if L.getD 7 false = true then w' = W8.drew.alloc (.cells #[.int .i64 (x : Nat)] 3) else w' = W8.drew)
        (fun v w' => Own encI 1 3 w' W6.heap.size v (nexts ps y ++ [(x : Int)]) ∧ (W8.drew.alloc (.cells #[.int .i64 (x : Nat)] 3)).grownBy w' (blk rows[y]) ∧ (blk v = blk rows[y] ∨ (∃ k, W8.heap.size + 1 ≤ k ∧ blk v = some k) ∨ blk v = none))
        (fun v w' => ∃ w1, (Own encI 1 3 w1 W6.heap.size v (nexts ps y ++ [(x : Int)]) ∧ (W8.drew.alloc (.cells #[.int .i64 (x : Nat)] 3)).grownBy w1 (blk rows[y]) ∧ (blk v = blk rows[y] ∨ (∃ k, W8.heap.size + 1 ≤ k ∧ blk v = some k) ∨ blk v = none)) ∧ w' = w1.setCell ⟨W3.heap.size, y, none⟩ v)
        (fun v => { tmps := #[pw b, .slice A0 l.length c, .bool true, .func (.func g) #[] lb, undef, undef, .pointer (some ⟨w.heap.size, 0, none⟩), undef, .slice none 0 0, .pointer (some ⟨W2.heap.size, 0, none⟩), .pointer (some ⟨W4.heap.size, 0, none⟩), .int .i64 (y : Nat), .int .i64 (x : Nat), undef, undef, undef, undef, undef, undef, undef, pw b, .pointer (some ⟨b, 0, none⟩), .pointer (some ⟨b, 0, none⟩), .pointer (some ⟨b, 0, none⟩), .int .i64 (n : Nat), .slice (some ⟨W1.heap.size, 0, none⟩) n n, pw b, .pointer (some ⟨b, 0, none⟩), .pointer (some ⟨b, 0, none⟩), .pointer (some ⟨b, 0, none⟩), .int .i64 (n : Nat), .slice (some ⟨W3.heap.size, 0, none⟩) n n, pw b, .func (.func g) #[] lb, .func (.func 162) #[] #[pw W5.heap.size, pw (W5.heap.size + 1)], .int .i64 (x : Nat), .int .i64 (y : Nat), .bool true, .int .i64 (y : Nat), .int .i64 (x : Nat), .slice (some ⟨W3.heap.size, 0, none⟩) n n, .int .i64 (y : Nat), .slice (some ⟨W3.heap.size, 0, none⟩) n n, .int .i64 (y : Nat), .pointer (some ⟨W3.heap.size, y, none⟩), .slice A1 (nexts ps y).length c1, .int .i64 (x : Nat), .slice (some ⟨W8.heap.size, 0, none⟩) 1 1, v, .pointer (some ⟨W3.heap.size, y, none⟩), undef, undef, undef, undef, undef, undef, undef, undef, undef, undef, undef, undef, undef, undef, undef, undef, undef, undef, undef, undef, undef, undef, undef, undef, undef, undef, undef, undef, undef, undef, undef, undef, undef, undef, undef], defers := [] })
        (by kernel_rfl) (by kernel_rfl) (by kernel_rfl) (by kernel_rfl) (by decide) rfl rfl ?hfin (fun _ => rfl) ?hsame ?hval ?h0 ?hstep0 ?hstepe ?hstep1 ?hlast ?hlw ?hend
      case hfin => intro v; kernel_rfl
      case hsame =>
        intro v v' i o hi hpi
        have hi11 : i < 11 := (Array.getElem?_eq_some_iff.1 hi).1
        obtain rfl | rfl | rfl | rfl | rfl | rfl | rfl | rfl | rfl | rfl | rfl : i = 0 ∨ i = 1 ∨ i = 2 ∨ i = 3 ∨ i = 4 ∨ i = 5 ∨ i = 6 ∨ i = 7 ∨ i = 8 ∨ i = 9 ∨ i = 10 := by omega
        all_goals first
          | (cases hi; rfl)
          | exact absurd hpi (by decide)
      case hval => intro v o ho; cases ho; rfl
      case h0 => exact rfl
      case hstep0 =>
        intro i o hi hpi L v w' hLs hLi hS
        have hc : w'.cell? ⟨W4.heap.size, 0, none⟩ = some (.slice (some ⟨W3.heap.size, 0, none⟩) n n) ∧ w'.cell? ⟨W3.heap.size, y, none⟩ = some (.slice A1 (nexts ps y).length c1) := by
          split at hS
          · subst hS
            exact ⟨((alloc1 W8.drew _).cell (p := ⟨W4.heap.size, 0, none⟩) hlt2).trans q2, ((alloc1 W8.drew _).cell (p := ⟨W3.heap.size, y, none⟩) hlt3).trans hgn⟩
          · subst hS
            exact ⟨q2, hgn⟩
        obtain ⟨hc1, hc2⟩ := hc
        have hi11 : i < 11 := (Array.getElem?_eq_some_iff.1 hi).1
        by_cases h7 : i = 7
        · subst h7
          cases hi
          have h7f : L.getD 7 false = false := getD_ff hLi
          rw [h7f] at hS
          simp only [Bool.false_eq_true, if_false] at hS
          subst hS
          refine ⟨stepIn_yes rfl (fun f _ => trivial) ?_, fun h => Bool.noConfusion (h : true = false)⟩
          intro a K hK
          have hset : (L.setIfInBounds 7 true).getD 7 false = true := getD_set_eq (by rw [hLs]; decide)
          go_simp
          exact hK _ (by rw [if_pos hset]; rfl)
        · have hset : (L.setIfInBounds i true).getD 7 false = L.getD 7 false := getD_set_ne (fun h => h7 h)
          rw [← hset] at hS
          obtain rfl | rfl | rfl | rfl | rfl | rfl | rfl | rfl | rfl | rfl | rfl : i = 0 ∨ i = 1 ∨ i = 2 ∨ i = 3 ∨ i = 4 ∨ i = 5 ∨ i = 6 ∨ i = 7 ∨ i = 8 ∨ i = 9 ∨ i = 10 := by omega
          all_goals first
            | exact absurd hpi (by decide)
            | exact absurd rfl h7
            | skip
          all_goals
            cases hi
            refine ⟨stepIn_yes rfl (fun f _ => trivial) ?_, fun h => Bool.noConfusion (h : true = false)⟩
            intro a K hK
            go_simp
            exact hK _ hS
      case hstepe =>
        intro o ho L v w' hd hS
        cases ho
        have h7 : L.getD 7 false = true := hd { on := 7, ground := Ground.data } (by simp) rfl
        rw [if_pos h7] at hS
        subst hS
        refine ⟨rfl, fun f _ => trivial, ?_⟩
        intro a K hK
        have hi0 := info_parts info_int
        obtain ⟨i0, hi, hz0, hz1, hz2⟩ := hi0
        have hown2 : Own encI 1 3 (W8.drew.alloc (.cells #[.int .i64 (x : Nat)] 3)) W6.heap.size (.slice A1 (nexts ps y).length c1) (nexts ps y) := by
          have := hown.below (w' := W8.drew.alloc (.cells #[.int .i64 (x : Nat)] 3)) ((Below.refl _ W8).drew.alloc (Nat.le_refl _) _)
          rwa [hrow] at this
        obtain ⟨v', w1, hrun, ho1, hg1, hb1⟩ := run_append_my (P := Tryz.prog) (W8.drew.alloc (.cells #[.int .i64 (x : Nat)] 3)) encI_len encI_one 22 22 3 i0 _ Tryz.underlying22 hi hz0 hz1 hz2 rfl (by decide) hown2
          (Sl_one (enc := encI) (size := 1) W8.drew (x : Int) 3 1) hbyt hwl2 (by simp; omega)
        refine uponIn_append (.tmp 45) (.tmp 47) 22 rfl rfl rfl hrun (hK _ _ ⟨ho1, ?_, ?_⟩)
        · rw [hrow]; exact hg1
        rw [hrow]
        rcases hb1 with hb1 | hb1 | hb1
        · exact .inl hb1
        · exact .inr (.inl ⟨_, by simp, hb1⟩)
        · exact .inr (.inr hb1)
      case hstep1 =>
        intro i o hi hie hil hnd v w' hS
        obtain ⟨hc1, hc2⟩ := after8 v w' hS
        have h7 : i ≠ 7 := by rintro rfl; exact absurd (hnd.symm.trans (by kernel_rfl : _ = true)) (by decide)
        have hi11 : i < 11 := (Array.getElem?_eq_some_iff.1 hi).1
        obtain rfl | rfl | rfl | rfl | rfl | rfl | rfl | rfl | rfl | rfl | rfl : i = 0 ∨ i = 1 ∨ i = 2 ∨ i = 3 ∨ i = 4 ∨ i = 5 ∨ i = 6 ∨ i = 7 ∨ i = 8 ∨ i = 9 ∨ i = 10 := by omega
        all_goals first
          | exact absurd rfl h7
          | exact absurd rfl hie
          | exact absurd rfl hil
          | skip
        all_goals
          cases hi
          refine stepIn_yes rfl (fun f _ => trivial) ?_
          intro a K hK
          go_simp
          exact hK _ hS
      case hlast =>
        intro o ho v w' hS
        cases ho
        obtain ⟨hc1, hc2⟩ := after8 v w' hS
        have hc3 : w'.frozen? ⟨W3.heap.size, y, none⟩ = false := frz8 v w' hS
        obtain ⟨A2, c2, rfl, _⟩ := hS.1.form
        refine stepIn_yes rfl (fun f _ => trivial) ?_
        intro a K hK
        go_simp
        exact hK _ ⟨w', hS, by simp⟩
      case hlw => intro v; rfl
      case hend =>
        rintro v w' ⟨w1, hS, rfl⟩
        gi_wp2
        obtain ⟨hr2, hb2⟩ := HR.out
        obtain ⟨ho, hg, hv⟩ := hS
        have hba : Below W8.heap.size W8 (W8.drew.alloc (.cells #[.int .i64 (x : Nat)] 3)) := (Below.refl _ W8).drew.alloc (Nat.le_refl _) _
        have hown2 := hown.below hba
        refine ⟨((KeepC.of_below hba).grown hg hown2.ctl).setCell _ _, ?_, rows.set y v, ?_⟩
        · exact ((hb2.drew.alloc _).trans (But.of_grown hg) (fun k hk e => absurd (hown2.lt k e).1 (by omega))).setCell (fun _ => rfl) _
        · rw [HNX.out]
          exact (hr2.near (Near.of_below (B := 0) hba)).put HN.out.2.2 ho hg (by simpa using hv)
  case hdone =>
    rintro Dk W hDk ⟨hb, rows, hr⟩ hK
    have hxl : (((a.edges.filter p).map fromTo).length) = (a.edges.filter p).length := List.length_map ..
    rw [hxl, List.take_length] at hr
    obtain ⟨ps, hps⟩ : ∃ ps, ps = (a.edges.filter p).map (turned back) := ⟨_, rfl⟩
    rw [← hps] at hr
    have HPS := Lib.hid hps
    have hpl9 : ps.length ≤ 1000000 := by
      rw [hps, List.length_map]
      have := List.length_filter_le p a.edges
      omega
    have hpb : ∀ q ∈ ps, (0 ≤ q.1 ∧ q.1 < n) ∧ 0 ≤ q.2 ∧ q.2 < n := by
      subst hps
      intro q hq
      obtain ⟨ed, hed, rfl⟩ := List.mem_map.1 hq
      have hmem := (List.mem_filter.1 hed).1
      simp only [A.ok, Bool.and_eq_true, List.all_eq_true] at ha
      have := ha.2 ed hmem
      simp [mayE, inB, hn] at this
      cases back <;> simp [turned] <;> omega
    have hlb : ∀ s ∈ l, 0 ≤ s ∧ s < n := by
      intro s hs
      have := List.all_eq_true.1 hlo s hs
      simp [inB, hn] at this
      omega
    rw [hW6] at hDk
    obtain ⟨W9, hW9⟩ : ∃ W9, W.alloc (.cells #[.slice none 0 0] 22) = W9 := ⟨_, rfl⟩
    have d9 : Below W.heap.size W W9 := hW9 ▸ alloc1 W _
    have s9 : W9.heap.size = W.heap.size + 1 := by rw [← hW9]; simp
    have hWs : W6.heap.size ≤ W.heap.size := hb.size
    have hDl : Dk < W.heap.size := (Array.getElem?_eq_some_iff.1 hK).1
    have m0 : Met W9 n W2.heap.size W1.heap.size W.heap.size W9.heap.size [] (.slice none 0 0) := by
      refine ⟨?_, ?_, ?_, Own.nil none⟩
      · rw [d9.block _ (by omega)]; exact hb.heap f3 (by omega)
      · rw [d9.block _ (by omega), marks_nil]; exact hb.heap f2 (by omega)
      · rw [← hW9]; exact heap_alloc_new W _
    have g5 : W9.heap[W4.heap.size]? = some (.cells #[.slice (some ⟨W3.heap.size, 0, none⟩) n n] 45 (0, 0)) := (d9.block _ (by omega)).trans (hb.heap f5 (by omega))
    have g4 : W9.heap[W3.heap.size]? = some (.cells rows.toArray 22 (0, 0)) := (d9.block _ (by omega)).trans hr.g
    have gK : W9.heap[Dk]? = some (.deferred (some [])) := (d9.block _ hDl).trans hK
    have gr := fun i (h : i < rows.length) => (hr.own i h).below d9
    have grl : ∀ i (h : i < rows.length) k, blk rows[i] = some k → W6.heap.size ≤ k ∧ k < W.heap.size := fun i h => (hr.own i h).lt
    have hrl := hr.len
    have dw : Below w.heap.size w W9 := below_next (hb.base d (fun k e => by omega)) d9
    clear hr hb hW1 hW2 hW3 hW4 hW5 hW6 d1 d2 d3 d4 d5 d6 d9 e1 e2 e3 c0 f1 f2 f3 f4 f5 f6 f7 hps ha hlo hp0 hk0 hK d hen
    have HSS := Lib.hid (And.intro s1 (And.intro s2 (And.intro s3 (And.intro s4 (And.intro s5 (And.intro s6 (And.intro s9 (And.intro hWs hDk))))))))
    clear s1 s2 s3 s4 s5 s6 s9 hWs hDk
    go_wp2
    go_loopw [53] (fun i wr => ∃ (k : Nat) (ws : List Int) (vw : Value), k ≤ l.length ∧ i = .int .i64 k ∧ Met wr n W2.heap.size W1.heap.size W.heap.size W9.heap.size ws vw ∧ But (fun j => j = W1.heap.size ∨ j = W.heap.size ∨ W9.heap.size ≤ j) W9 wr ∧ BInv n ps l ws 0 ∧ ∀ s ∈ l.take k, s ∈ ws) (fun i _ => l.length - (intOf i).toNat)
    case atStart => exact ⟨0, [], _, Nat.zero_le _, rfl, m0, But.refl _ _, BInv.start _ _ _, by simp⟩
    case round =>
      obtain ⟨k, ws, vw, hkl, rfl, hM, hBt, hI, hin⟩ := hrel
      by_cases hlt : k < l.length
      · obtain ⟨lbk, lo, rfl, hlb1, hlc⟩ := hlr.out (by omega)
        have hcell := (dw.cell (p := ⟨lbk, lo + k, none⟩) hlb1).trans (cell1 encI_eq hlc hlt)
        have hszs := HSS.out
        have hcell := hBt.cell hcell (show ¬ (lbk = W1.heap.size ∨ lbk = W.heap.size ∨ W9.heap.size ≤ lbk) by omega)
        obtain ⟨q, hq⟩ : ∃ q : Nat, l[k] = q := ⟨l[k].toNat, by have := hlb _ (List.getElem_mem hlt); omega⟩
        have hqn : q < n := by have := hlb _ (List.getElem_mem hlt); omega
        have hql : (q : Int) ∈ l := hq ▸ List.getElem_mem hlt
        have htk : l.take (k + 1) = l.take k ++ [(q : Int)] := by rw [List.take_succ_eq_append_getElem hlt, hq]
        rw [hq] at hcell
        have hI2 := hI.meet (s := (q : Int)) (by omega) (by omega) (.start hql)
        have hws : ws.length ≤ 1000000 := by have := hI.len; omega
        have hin2 : ∀ s ∈ l.take (k + 1), s ∈ meet ws q := by
          rw [htk]
          intro s hs
          rcases List.mem_append.1 hs with h | h
          · exact mem_meet.2 (.inl (hin s h))
          · exact mem_meet.2 (.inr (by simpa using h))
        have HX := Lib.hid (And.intro hin2 hI2)
        clear hszs hlc htk hin2 hI2 hin hI hlb hpb hq hql hlr
        cases hc : ws.contains (q : Int) with
        | true =>
          have hcall := meet_seen n W2.heap.size W1.heap.size W.heap.size W9.heap.size ws vw q hqn hc wr hM
          have hm : meet ws q = ws := by unfold meet; rw [if_pos hc]
          rw [hm] at HX
          clear hc hm
          go_wp2_with (go_at_call 127; refine hcall.mono ?_; rintro e w2 ⟨rfl, rfl⟩)
          go_roundw
          case rel => exact ⟨k + 1, ws, vw, by omega, by go_num, hM, hBt, HX.out.2, HX.out.1⟩
          case measure => simp [intOf]; omega
        | false =>
          have hcall := meet_new n W2.heap.size W1.heap.size W.heap.size W9.heap.size ws vw q hqn hws hc wr hM hBt.size
          clear hc
          go_wp2_with (go_at_call 127; refine hcall.mono ?_; rintro e w2 ⟨rfl, vw2, hM2, hBt2⟩)
          go_roundw
          case rel => exact ⟨k + 1, _, vw2, by omega, by go_num, hM2, hBt.trans hBt2 (fun _ _ h => h), HX.out.2, HX.out.1⟩
          case measure => simp [intOf]; omega
      · have hkk : k = l.length := by omega
        subst hkk
        rw [List.take_length] at hin
        clear hkl hlt
        obtain ⟨A5, c5, hvw, hle5⟩ := hM.o.form
        go_wp2
        clear hle5 hvw
        clear A5 c5
        go_loopw [17] (fun i wr => ∃ (k : Nat) (ws : List Int) (vw : Value), i = .int .i64 k ∧ Met wr n W2.heap.size W1.heap.size W.heap.size W9.heap.size ws vw ∧ But (fun j => j = W1.heap.size ∨ j = W.heap.size ∨ W9.heap.size ≤ j) W9 wr ∧ BInv n ps l ws k ∧ ∀ s ∈ l, s ∈ ws) (fun i _ => n - (intOf i).toNat)
        case atStart => exact ⟨0, ws, vw, rfl, hM, hBt, hI, hin⟩
        case round =>
          clear hM hBt hI hin
          clear ws vw
          obtain ⟨k, ws, vw, rfl, hM, hBt, hI, hin⟩ := hrel
          obtain ⟨A5, c5, hvw, hle5⟩ := hM.o.form
          have hcv := cell_at hM.v 0
          simp only [List.getElem?_toArray, List.getElem?_cons_zero] at hcv
          by_cases hlt : k < ws.length
          · obtain ⟨b5, c6, hv5, hbl5, hcw⟩ := hM.o.at_ (by omega)
            rw [hv5] at hcv
            have hcw := hcw k hlt
            have hszs := HSS.out
            have hbq := hI.bound _ (List.getElem_mem hlt)
            obtain ⟨q, hq⟩ : ∃ q : Nat, ws[k] = q := ⟨ws[k].toNat, by omega⟩
            have hqn : q < n := by omega
            rw [hq] at hcw
            have hqr : q < rows.length := by omega
            obtain ⟨A7, c7, hrow, hle7⟩ := (gr q hqr).form
            have g4c := cell_at g4 q
            rw [List.getElem?_toArray, List.getElem?_eq_getElem hqr, hrow] at g4c
            have g5c := cell_at g5 0
            simp only [List.getElem?_toArray, List.getElem?_cons_zero] at g5c
            have g4d := hBt.cell g4c (show ¬ (W3.heap.size = W1.heap.size ∨ W3.heap.size = W.heap.size ∨ W9.heap.size ≤ W3.heap.size) by omega)
            have g5d := hBt.cell g5c (show ¬ (W4.heap.size = W1.heap.size ∨ W4.heap.size = W.heap.size ∨ W9.heap.size ≤ W4.heap.size) by omega)
            have hi1 : (k : Int) < ws.length := by omega
            have hi2 : (q : Int) < n := by omega
            have hkn : k < n := by have := hI.len; omega
            clear hszs g4c g5c hbq hvw hle5 hle7 hlr
            go_wp2
            go_quiet (fail)
            have hkl' : ws[k]? = some (q : Int) := by rw [List.getElem?_eq_getElem hlt, hq]
            have HK := Lib.hid (And.intro hkl' (And.intro hin hI))
            have hrowlt := grl q hqr
            have hnl : (nexts ps q).length ≤ 1000000 := Nat.le_trans (nexts_len ps q) hpl9
            clear hkl' hq hin hI hi1 hi2
            go_wp2
            go_loopw [75] (fun i wz => ∃ (m : Nat) (ws' : List Int) (vw' : Value), m ≤ (nexts ps q).length ∧ i = .int .i64 m ∧ Met wz n W2.heap.size W1.heap.size W.heap.size W9.heap.size ws' vw' ∧ But (fun j => j = W1.heap.size ∨ j = W.heap.size ∨ W9.heap.size ≤ j) W9 wz ∧ BInv n ps l ws' k ∧ k < ws'.length ∧ ws'[k]? = some (q : Int) ∧ (∀ s ∈ l, s ∈ ws') ∧ ∀ t ∈ (nexts ps q).take m, t ∈ ws') (fun i _ => (nexts ps q).length - (intOf i).toNat)
            case atStart => exact ⟨0, ws, vw, Nat.zero_le _, rfl, ⟨hM.i, hM.g, hM.v, hM.o⟩, hBt.drewN _, HK.out.2.2, hlt, HK.out.1, HK.out.2.1, by simp⟩
            case round =>
              clear hM hBt HK hcv hcw hv5 hbl5 g4d g5d
              obtain ⟨m, ws', vw', hml, rfl, hM, hBt, hI, hkl, hkq, hin, hdo⟩ := hrel
              by_cases hltm : m < (nexts ps q).length
              · obtain ⟨b8, c8, hv8, hbl8, hcr⟩ := (gr q hqr).at_ (by omega)
                rw [hrow] at hv8
                cases hv8
                have hcr := hcr m hltm
                have hszs := HSS.out
                have hb8 := hrowlt b8 hbl8
                have hcr := hBt.cell hcr (show ¬ (b8 = W1.heap.size ∨ b8 = W.heap.size ∨ W9.heap.size ≤ b8) by omega)
                have hmem : (nexts ps q)[m] ∈ nexts ps q := List.getElem_mem hltm
                have hpq := mem_nexts.1 hmem
                have hpq2 := hpb _ hpq
                obtain ⟨t, ht⟩ : ∃ t : Nat, (nexts ps q)[m] = t := ⟨((nexts ps q)[m]).toNat, by omega⟩
                rw [ht] at hcr hpq
                have htn : t < n := by omega
                have hqg : Goes ps l (q : Int) := hI.goes _ (List.mem_of_getElem? hkq)
                have hI2 := hI.meet (s := (t : Int)) (by omega) (by omega) (.step hqg hpq)
                have hws : ws'.length ≤ 1000000 := by have := hI.len; omega
                have htk : (nexts ps q).take (m + 1) = (nexts ps q).take m ++ [(t : Int)] := by rw [List.take_succ_eq_append_getElem hltm, ht]
                have hdo2 : ∀ s ∈ (nexts ps q).take (m + 1), s ∈ meet ws' t := by
                  rw [htk]
                  intro s hs
                  rcases List.mem_append.1 hs with h | h
                  · exact mem_meet.2 (.inl (hdo s h))
                  · exact mem_meet.2 (.inr (by simpa using h))
                have hin2 : ∀ s ∈ l, s ∈ meet ws' t := fun s hs => mem_meet.2 (.inl (hin s hs))
                have hkq2 : (meet ws' t)[k]? = some (q : Int) := by rw [meet_get hkl]; exact hkq
                have hkl2 : k < (meet ws' t).length := Nat.lt_of_lt_of_le hkl meet_len
                have HX := Lib.hid (And.intro hI2 (And.intro hkl2 (And.intro hkq2 (And.intro hin2 hdo2))))
                have hi3 : (m : Int) < (nexts ps q).length := by omega
                clear hszs htk hdo2 hin2 hkq2 hkl2 hI2 hdo hin hkq hI hpq hpq2 hmem ht hqg hlb hpb hrowlt grl gr
                cases hc : ws'.contains (t : Int) with
                | true =>
                  have hcall := meet_seen n W2.heap.size W1.heap.size W.heap.size W9.heap.size ws' vw' t htn hc _ hM
                  have hm : meet ws' t = ws' := by unfold meet; rw [if_pos hc]
                  rw [hm] at HX
                  clear hc hm
                  go_wp2_with (go_at_call 127; refine hcall.mono ?_; rintro e w2 ⟨rfl, rfl⟩)
                  go_roundw
                  case rel => exact ⟨m + 1, ws', vw', by omega, by go_num, hM, hBt, HX.out.1, HX.out.2.1, HX.out.2.2.1, HX.out.2.2.2.1, HX.out.2.2.2.2⟩
                  case measure => simp [intOf]; omega
                | false =>
                  have hcall := meet_new n W2.heap.size W1.heap.size W.heap.size W9.heap.size ws' vw' t htn hws hc _ hM hBt.size
                  clear hc
                  go_wp2_with (go_at_call 127; refine hcall.mono ?_; rintro e w2 ⟨rfl, vw2, hM2, hBt2⟩)
                  go_roundw
                  case rel => exact ⟨m + 1, _, vw2, by omega, by go_num, hM2, hBt.trans hBt2 (fun _ _ h => h), HX.out.1, HX.out.2.1, HX.out.2.2.1, HX.out.2.2.2.1, HX.out.2.2.2.2⟩
                  case measure => simp [intOf]; omega
              · have hmm : m = (nexts ps q).length := by omega
                subst hmm
                rw [List.take_length] at hdo
                have hI2 := hI.next hkl (by
                  have : ws'[k] = q := by rw [List.getElem?_eq_getElem hkl] at hkq; exact Option.some.inj hkq
                  rw [this]; exact hdo)
                have HX := Lib.hid (And.intro hI2 hin)
                clear hdo hI hkq hml hltm hI2 hin hlb hpb hrowlt grl gr
                go_wp2
                go_roundw
                case rel => exact ⟨k + 1, ws', vw', by go_num, hM, hBt, HX.out.1, HX.out.2⟩
                case measure => simp [intOf]; omega
          · have hkk : k = ws.length := by have := hI.at_; omega
            subst hkk
            have hi1 : ¬ (ws.length : Int) < ws.length := by omega
            rw [hvw] at hcv
            have hws : ws.length ≤ 1000000 := by have := hI.len; omega
            have hrise := rises_ok wr vw ws (hM.o.sl encI_len) hI.nodup hws
            rw [hvw] at hrise
            have HX := Lib.hid (And.intro hI hin)
            clear hI hin hlb hpb grl gr hlt
            go_wp2_with (go_at_call 128; refine hrise.mono ?_; rintro e w2 ⟨v', ys, rfl, ho, hb2, hst2, hm2⟩; obtain ⟨A6, c6, rfl, hle6⟩ := ho.form)
            have hszs := HSS.out
            have hDk : ¬ (Dk = W1.heap.size ∨ Dk = W.heap.size ∨ W9.heap.size ≤ Dk) := by omega
            have gK2 := hBt.heap gK hDk
            have gK3 := (hb2.block Dk (Array.getElem?_eq_some_iff.1 gK2).1).trans gK2
            refine ⟨by simp, .inl ⟨_, _, rfl, run_takeDeferred gK3, ?_⟩⟩
            have hcl := HX.out.1.cl HX.out.2 hst2 hm2
            have hbw : Below w.heap.size w wr := hBt.base dw (fun j e => by omega)
            have hb3 : Below w.heap.size w (w2.putObj Dk (.deferred none)) := below_putObj (hbw.trans (hb2.mono hbw.size)) (by omega) _
            have ho2 := (ho.lower (base' := w.heap.size) hbw.size).putObj (b := Dk) (.deferred none) gK3
            refine ⟨.slice A6 ys.length c6, by simp [results, Tryz.f68, go_sem], _, rfl, ?_, hb3⟩
            have hn2 : a.states.toNat = n := by omega
            have hps2 : a.pairs back p = ps := HPS.out.symm
            rw [hn2, hps2, ← hcl]
            exact ho2
end Go.Proofs.YtakldmbbmefnbaaGreat
/- walk: closure and step. -/
namespace Go.Proofs.YtakldmbbmefnbaaGreat
open Go.RowKit
set_option maxRecDepth 100000
set_option maxHeartbeats 1000000
attribute [local go_sem] Oper.semAt_some

/-- An automaton that can be walked: it holds together, and is not too great. -/
structure Fit (a : A) : Prop where
  ok : a.ok = true
  n : a.states ≤ 1000
  s : a.start.length ≤ 1000000
  f : a.final.length ≤ 1000000
  e : a.edges.length ≤ 1000000

/-- The closure of states. -/
noncomputable def A.clo (a : A) (l : List Int) : List Int := cl a.states.toNat (a.pairs false (fun e => e.free)) l

theorem closure_ok (b : Nat) (a : A) (vs vf ve vl : Value) (l : List Int) (w : World) (hk : Wk w b a vs vf ve) (ha : Fit a) (hl : Ints w w.heap.size vl l) (hlo : l.all (inB a.states) = true) (hll : l.length ≤ 1000000) :
    Calls Tryz.prog 66 #[pw b, vl] w (fun r w' => ∃ v', r = .returned v' ∧ Own encI 1 3 w' w.heap.size v' (a.clo l) ∧ Below w.heap.size w w') := by
  have hg := grown_ok b a vs vf ve vl _ l false (fun e => e.free) w hk ha.ok hl hlo (free_pred w) ha.n hll ha.e
  obtain ⟨A0, c, rfl, _⟩ := id hl
  clear hk hl
  go_enter Tryz.func66, Tryz.ntmps66
  go_wp2_with (go_at_call 68; refine hg.mono ?_; rintro e w1 ⟨v1, rfl, ho1, hb1⟩; obtain ⟨A1, c1, rfl, hle1⟩ := ho1.form)
  go_ret
  exact ⟨_, rfl, ho1, hb1⟩

/-- The edges by which a byte leads on. -/
def leads (from_ : List Int) (b : Nat) (e : E) : Bool := !e.free && e.set.has b && from_.any (fun x => e.src == x)

theorem step1_pred (from_ : List Int) (vfr : Value) (b : Nat) (hb : b < 256) (bb bf : Nat) (w : World) (h1 : w.cell? ⟨bb, 0, none⟩ = some (.int .u8 b)) (h2 : w.cell? ⟨bf, 0, none⟩ = some vfr) (hf : Ints w w.heap.size vfr from_) (hl : from_.length ≤ 1000000) :
    Pred1 Tryz.prog vE (.func (.func 132) #[] #[pw bb, pw bf]) (fun _ => True) (leads from_ b) w := by
  refine ⟨_, _, rfl, Tryz.call132, fun W e _ hW => ?_⟩
  obtain ⟨src, dst, fr, st⟩ := e
  unfold vE
  simp only
  have q1 := (hW.cell (p := ⟨bb, 0, none⟩) (World.block_lt_of_cell? _ _ h1)).trans h1
  have q2 := (hW.cell (p := ⟨bf, 0, none⟩) (World.block_lt_of_cell? _ _ h2)).trans h2
  have hfW : Ints W W.heap.size vfr from_ := hf.below hW hW.size
  clear hf h1 h2 hW
  obtain ⟨A0, c, rfl, _⟩ := id hfW
  obtain ⟨W1, hW1⟩ : ∃ W1, W.alloc (.cells #[.int .i64 src, .int .i64 dst, .bool fr, .int .u64 st.w0.toNat, .int .u64 st.w1.toNat, .int .u64 st.w2.toNat, .int .u64 st.w3.toNat] 73) = W1 := ⟨_, rfl⟩
  have hBW : Below W.heap.size W W1 := hW1 ▸ alloc1 W _
  have hn1 : ∀ j, W1.cell? ⟨W.heap.size, j, none⟩ = _ := fun j => hW1 ▸ cell_new W _ _ j
  have e0 := hn1 0; have e1 := hn1 1; have e2 := hn1 2; have e3 := hn1 3; have e4 := hn1 4; have e5 := hn1 5; have e6 := hn1 6
  simp only [List.getElem?_toArray, List.getElem?_cons_zero, List.getElem?_cons_succ] at e0 e1 e2 e3 e4 e5 e6
  have r1 := (hBW.cell (p := ⟨bb, 0, none⟩) (World.block_lt_of_cell? _ _ q1)).trans q1
  have r2 := (hBW.cell (p := ⟨bf, 0, none⟩) (World.block_lt_of_cell? _ _ q2)).trans q2
  have hf1 := hfW.below hBW hBW.size
  clear hn1 hfW
  have hc1 := fun W2 (h : Below W1.heap.size W1 W2) => contains_int _ from_ src W2 (hf1.below h h.size) hl
  have hh := has_ok st b hb W1
  unfold vS at hh
  clear hf1
  have hres : (!fr && st.has b && from_.any (fun x => src == x)) = leads from_ b ⟨src, dst, fr, st⟩ := rfl
  generalize leads from_ b ⟨src, dst, fr, st⟩ = res at *
  have HR := Lib.hid hres
  clear hres
  obtain ⟨hasb, hhasb⟩ : ∃ x, st.has b = x := ⟨_, rfl⟩
  obtain ⟨inn, hinn⟩ : ∃ x, from_.any (fun x => src == x) = x := ⟨_, rfl⟩
  rw [hhasb, hinn] at HR
  rw [hhasb] at hh
  rw [hinn] at hc1
  clear hhasb hinn
  go_enter Tryz.func132, Tryz.ntmps132
  cases fr <;> cases hasb
  all_goals
    go_wp2_with first
      | (go_at_call 133; refine hh.mono ?_; rintro x w2 ⟨rfl, hb2⟩; have p0 := (hb2.cell (p := ⟨W.heap.size, 0, none⟩) (World.block_lt_of_cell? _ _ e0)).trans e0; have p2 := (hb2.cell (p := ⟨bf, 0, none⟩) (World.block_lt_of_cell? _ _ r2)).trans r2)
      | (go_at_call 54; refine (hc1 _ hb2).mono ?_; rintro x w3 ⟨rfl, rfl⟩)
  all_goals
    go_ret
    refine ⟨by have h := HR.out; simp at h; simp [h], ?_⟩
    first
      | exact below_next hBW hb2
      | exact hBW

/-- A step by a byte. -/
noncomputable def A.step (a : A) (l : List Int) (b : Nat) : List Int := a.clo ((a.edges.filter (leads (a.clo l) b)).map (fun e => e.dst))

theorem A.clo_in {a : A} (ha : Fit a) (l : List Int) : (a.clo l).all (inB a.states) = true := by
  rw [List.all_eq_true]
  intro s hs
  have := (mem_cl.1 hs).1
  have h0 : 0 ≤ a.states := by have := ha.ok; simp [A.ok] at this; omega
  simp [inB]
  omega
theorem A.clo_len {a : A} (ha : Fit a) (l : List Int) : (a.clo l).length ≤ 1000 := by
  unfold A.clo cl
  refine Nat.le_trans (List.length_filter_le _ _) ?_
  have := ha.n
  simp
  omega
theorem A.dst_in {a : A} (ha : Fit a) (p : E → Bool) : ((a.edges.filter p).map (fun e => e.dst)).all (inB a.states) = true := by
  rw [List.all_eq_true]
  intro s hs
  obtain ⟨e, he, rfl⟩ := List.mem_map.1 hs
  have h := ha.ok
  simp only [A.ok, Bool.and_eq_true, List.all_eq_true] at h
  have := h.2 e (List.mem_filter.1 he).1
  simp [mayE] at this
  exact this.1.2
theorem A.dst_len {a : A} (ha : Fit a) (p : E → Bool) : ((a.edges.filter p).map (fun e => e.dst)).length ≤ 1000000 := by
  rw [List.length_map]
  exact Nat.le_trans (List.length_filter_le _ _) ha.e

theorem step_ok (b : Nat) (a : A) (vs vf ve vl : Value) (l : List Int) (by_ : Nat) (w : World) (hk : Wk w b a vs vf ve) (ha : Fit a) (hl : Ints w w.heap.size vl l) (hlo : l.all (inB a.states) = true) (hll : l.length ≤ 1000000) (hby : by_ < 256) :
    Calls Tryz.prog 76 #[pw b, vl, .int .u8 by_] w (fun r w' => ∃ v', r = .returned v' ∧ Own encI 1 3 w' w.heap.size v' (a.step l by_) ∧ Below w.heap.size w w') := by
  obtain ⟨i0, hi, hz0, hz1, hz2⟩ := info_parts info_int
  obtain ⟨A0, c, rfl, _⟩ := id hl
  refine callsIn_wide.1 (callsIn_of_wp_marks (n := 0) Tryz.func76 rfl trivial ?_ rfl)
  simp only [Tryz.ntmps76, List.size_toArray, List.length_cons, List.length_nil, Nat.reduceAdd, Nat.reduceSub, Array.replicate_succ, Array.replicate_zero, List.push_toArray, List.append_toArray, List.nil_append, List.cons_append]
  have hwf : ∀ f, Fence.wide.fn f := fun _ => trivial
  have hwd : Fence.wide.depth = none := rfl
  obtain ⟨W1, hW1⟩ : ∃ W1, w.alloc (.cells #[.int .u8 by_] 5) = W1 := ⟨_, rfl⟩
  have d1 : Below w.heap.size w W1 := hW1 ▸ alloc1 w _
  have hk1 := hk.below d1
  have hc := closure_ok b a vs vf ve _ l W1 hk1 ha (hl.below d1 d1.size) hlo hll
  refine (wpIn_wide (n := 0)).2 ?_
  go_wp2_with first
    | (go_at_call 66; refine hc.mono ?_; rintro e W2 ⟨v2, rfl, ho2, d2⟩; obtain ⟨A2, c2, rfl, hle2⟩ := ho2.form)
    | (go_at_call 126; refine (edges_ok b _ _ _).mono ?_; rintro e w2 ⟨rfl, rfl⟩)
  obtain ⟨W3, hW3⟩ : ∃ W3, W2.alloc (.cells #[.slice A2 (a.clo l).length c2] 22) = W3 := ⟨_, rfl⟩
  obtain ⟨W4, hW4⟩ : ∃ W4, W3.alloc (.cells #[.slice none 0 0] 22) = W4 := ⟨_, rfl⟩
  have z3 : W3.heap.size = W2.heap.size + 1 := by rw [← hW3]; simp
  have z4 : W4.heap.size = W3.heap.size + 1 := by rw [← hW4, World.size_alloc]
  rw [hW3, hW4, ← z3]
  obtain ⟨fv, hfv⟩ : ∃ fv, Value.func (.func 132) #[] #[pw w.heap.size, pw W2.heap.size] = fv := ⟨_, rfl⟩
  obtain ⟨W6, hW6⟩ : ∃ W6, (W4.alloc (.cells #[pw b] 91)).alloc (.cells #[.func (.func 132) #[] #[.pointer (some ⟨w.heap.size, 0, none⟩), .pointer (some ⟨W2.heap.size, 0, none⟩)]] 95) = W6 := ⟨_, rfl⟩
  rw [hW6]
  have d3 : Below W2.heap.size W2 W3 := hW3 ▸ alloc1 W2 _
  have d4 : Below W3.heap.size W3 W4 := hW4 ▸ alloc1 W3 _
  have d6 : Below W4.heap.size W4 W6 := hW6 ▸ below_next (alloc1 W4 _) (alloc1 _ _)
  have f1 : W6.heap[W3.heap.size]? = some (.cells #[.slice none 0 0] 22 (0, 0)) := by
    rw [d6.block _ (by omega), ← hW4]; exact heap_alloc_new W3 _
  have f6 : W6.heap[W4.heap.size]? = some (.cells #[pw b] 91 (0, 0)) := by
    rw [← hW6, Below.heap_alloc _ _ _ (by simp)]; exact heap_alloc_new W4 _
  have f7 : W6.heap[W4.heap.size + 1]? = some (.cells #[fv] 95 (0, 0)) := by
    rw [← hW6, ← hfv]; have := heap_alloc_new (W4.alloc (.cells #[pw b] 91)) (.cells #[Value.func (.func 132) #[] #[pw w.heap.size, pw W2.heap.size]] 95); rwa [World.size_alloc] at this
  have z1 : W1.heap.size = w.heap.size + 1 := by rw [← hW1]; simp
  have z21 := d2.size
  have z6 : W6.heap.size = W4.heap.size + 2 := by rw [← hW6]; simp
  have hk3 := (hk1.below d2).below d3
  have q1 : W3.cell? ⟨w.heap.size, 0, none⟩ = some (.int .u8 by_) := by
    rw [d3.cell (by simp; omega), d2.cell (by simp; omega), ← hW1, cell_new]; rfl
  have q2 : W3.cell? ⟨W2.heap.size, 0, none⟩ = some (.slice A2 (a.clo l).length c2) := by rw [← hW3, cell_new]; rfl
  have hpr := step1_pred (a.clo l) _ by_ hby w.heap.size W2.heap.size W3 q1 q2 ((ho2.sl encI_len).below d3 d3.size) (Nat.le_trans (A.clo_len ha l) (by decide))
  have dw3 : Below w.heap.size w W3 := below_next d1 (below_next d2 d3)
  have d36 : Below W3.heap.size W3 W6 := below_next d4 d6
  have hne := ha.e
  have hlen := A.dst_len ha
  refine (wpIn_wide (n := 0)).1 ?_
  refine wp_rangeFunc_iter (gf := 162) (lb := #[pw W4.heap.size, pw (W4.heap.size + 1)]) (by rw [z4]; rfl) Tryz.call162
    (edges_iter b W4.heap.size (W4.heap.size + 1) fv a vs vf ve (leads (a.clo l) by_) W3 hk3 (hfv ▸ hpr) hne) ?ps
    (fun k W => But (fun j => j = W3.heap.size) W6 W ∧ ∃ vo, W.heap[W3.heap.size]? = some (.cells #[vo] 22 (0, 0)) ∧ Own encI 1 3 W W6.heap.size vo (((a.edges.filter (leads (a.clo l) by_)).take k).map (fun e => e.dst)))
    (fun _ _ => False) ?hI (fun _ _ _ h => h.elim) ?hD ?h0 ?hround ?hdone (fun _ _ _ _ h => h.elim)
  case ps => intro x hx; obtain ⟨e, _, rfl⟩ := List.mem_map.1 hx; rfl
  case hI =>
    rintro k W W' ⟨hb, vo, hv, ho⟩ hn
    exact ⟨hb.near hn (Nat.le_refl _), vo, hn.cells hv, hn.own ho⟩
  case hD =>
    rintro k W ⟨hb, vo, hv, ho⟩
    refine ⟨hb.base d36 (fun k e => by omega), ?_, ?_⟩
    · exact cell_at (hb.heap f6 (by omega)) 0
    · exact cell_at (hb.heap f7 (by omega)) 0
  case h0 => exact ⟨But.refl _ _, _, f1, Own.nil none⟩
  case hround =>
    rintro L k hk9 W ⟨hb, vo, hv, ho⟩
    have hk' : k < (a.edges.filter (leads (a.clo l) by_)).length := by simpa using hk9
    rw [List.getElem_map]
    have hnx : ((a.edges.filter (leads (a.clo l) by_)).take (k + 1)).map (fun e => e.dst) = ((a.edges.filter (leads (a.clo l) by_)).take k).map (fun e => e.dst) ++ [((a.edges.filter (leads (a.clo l) by_))[k]).dst] := by
      rw [List.take_succ_eq_append_getElem hk', List.map_append]; rfl
    have hln : (((a.edges.filter (leads (a.clo l) by_)).take k).map (fun e => e.dst)).length ≤ 1000000 := by
      have := hlen (leads (a.clo l) by_)
      rw [List.length_map] at this ⊢
      rw [List.length_take]
      omega
    generalize (a.edges.filter (leads (a.clo l) by_))[k] = ed at *
    generalize ((a.edges.filter (leads (a.clo l) by_)).take k).map (fun e => e.dst) = xs at *
    have HNX := Lib.hid hnx
    have HS := Lib.hid (And.intro z1 (And.intro z21 (And.intro z3 (And.intro z4 z6))))
    clear hnx hk9 hk' hlen hpr hk hk1 hk3 q1 q2 f1 f6 f7 d1 d2 d3 d4 d6 d36 dw3 hc hl z1 z3 z4 z6 z21 hW1 hW3 hW4 hW6 ho2
    unfold fromTo
    gi_wp2
    refine ⟨KeepC.refl _, fun W8 hn2 => ?_⟩
    have hb2 := hb.near hn2 (Nat.le_refl _)
    have hv2 := hn2.cells hv
    have ho2 := hn2.own ho
    clear hb hv ho hn2
    obtain ⟨A7, c7, rfl, hle7⟩ := ho2.form
    have r1 := cell_at hv2 0
    simp only [List.getElem?_toArray, List.getElem?_cons_zero] at r1
    have hbyt : (4 * (xs.length + 1) + 4096) * 8 ≤ 140737488355328 := by omega
    have hwl2 : xs.length + 1 ≤ 4611686018427387904 := by omega
    have hba : Below W8.heap.size W8 (W8.alloc (.cells #[.int .i64 ed.dst] 3)) := alloc1 W8 _
    have hsz : W6.heap.size ≤ (W8.alloc (.cells #[.int .i64 ed.dst] 3)).heap.size := Nat.le_trans hb2.size hba.size
    have old : ∀ w1, (W8.alloc (.cells #[.int .i64 ed.dst] 3)).grownBy w1 (blk (.slice A7 xs.length c7)) → w1.heap[W3.heap.size]? = some (.cells #[.slice A7 xs.length c7] 22 (0, 0)) := by
      intro w1 hg
      have hlt := (Array.getElem?_eq_some_iff.1 hv2).1
      rw [hg.block _ (by simp; omega) (fun e => own_ne ho2 hv2 (by decide) e.symm), Below.heap_alloc _ _ _ hlt]
      exact hv2
    gi_wp2_with (gi_at_builtin; refine wpListIn_append_my _ rfl (.tmp 19) (.tmp 21) 22 rfl encI_len encI_one 3 i0 _ Tryz.underlying22 hi hz0 hz1 hz2 rfl (by decide) (base := W6.heap.size) rfl (xs := xs) (ho2.below hba) rfl (ys := [ed.dst]) (Sl_one (enc := encI) (size := 1) W8 ed.dst _ _) hbyt hwl2 hsz ?_; intro v1 w1 hown1 hg1 hb1 hl1; obtain ⟨A1, cc1, rfl, hle1⟩ := hown1.form; have q1 := old w1 hg1; have t1 := cell_at q1 0; have t2 := free_at q1 0; simp only [List.getElem?_toArray, List.getElem?_cons_zero] at t1)
    refine ⟨((KeepC.of_below hba).grown hg1 (ho2.below hba).ctl).setCell _ _, ?_, _, heap_set q1 0 _, ?_⟩
    · refine But.setCell (S := fun j => j = W3.heap.size) ?_ (fun _ => rfl) _
      exact (hb2.alloc _).trans (But.of_grown hg1) (fun j hj e => absurd ((ho2.below hba).lt j e).1 (by omega))
    · rw [HNX.out]
      have hne2 := own_ne hown1 q1 (by decide)
      have := hown1.setCell (p := ⟨W3.heap.size, 0, none⟩) hne2 (.slice A1 (xs ++ [ed.dst]).length cc1)
      simpa using this
  case hdone =>
    rintro Dk W hDk ⟨hb, vo, hv, ho⟩ hK
    rw [List.length_map, List.take_length] at ho
    have hB3 : Below W3.heap.size W3 W := hb.base d36 (fun k e => by omega)
    have hc2 := closure_ok b a vs vf ve vo _ W (hk3.below hB3) ha (ho.sl encI_len) (A.dst_in ha _) (hlen _)
    have hstep : a.clo ((a.edges.filter (leads (a.clo l) by_)).map (fun e => e.dst)) = a.step l by_ := rfl
    rw [hstep] at hc2
    clear hstep
    generalize (a.edges.filter (leads (a.clo l) by_)).map (fun e => e.dst) = outs at *
    obtain ⟨A7, c7, rfl, hle7⟩ := ho.form
    have r1 := cell_at hv 0
    simp only [List.getElem?_toArray, List.getElem?_cons_zero] at r1
    have HS := Lib.hid (And.intro z1 (And.intro z21 (And.intro z3 (And.intro z4 z6))))
    have hWd : W6.heap.size ≤ Dk := hDk
    clear hpr hk hk1 hk3 q1 q2 f1 f6 f7 d1 d2 d3 d4 d6 d36 hc hl z1 z3 z4 z6 z21 hW1 hW3 hW4 hW6 ho2 hfv
    go_wp2_with (go_at_call 66; refine hc2.mono ?_; rintro e w2 ⟨v2, rfl, ho9, d9⟩; obtain ⟨A9, c9, rfl, hle9⟩ := ho9.form)
    have gK3 := (d9.block Dk (Array.getElem?_eq_some_iff.1 hK).1).trans hK
    have hszs := HS.out
    have h3s := hB3.size
    refine ⟨by simp, .inl ⟨_, _, rfl, run_takeDeferred gK3, ?_⟩⟩
    have hbw : Below w.heap.size w w2 := below_next dw3 (below_next hB3 d9)
    have hb3 : Below w.heap.size w (w2.putObj Dk (.deferred none)) := below_putObj hbw (by omega) _
    have ho3 := (ho9.lower (base' := w.heap.size) (by omega)).putObj (b := Dk) (.deferred none) gK3
    exact ⟨.slice A9 (a.step l by_).length c9, by simp [results, Tryz.f76, go_sem], _, rfl, ho3, hb3⟩
end Go.Proofs.YtakldmbbmefnbaaGreat
/- walk: there, ends. -/
namespace Go.Proofs.YtakldmbbmefnbaaGreat
open Go.RowKit
set_option maxRecDepth 100000
set_option maxHeartbeats 1000000

/-- How a call ends that leaves with an error unless something holds. -/
def needEnd (ok : Bool) (e : Int) : Ending := if ok then .returned (.tuple #[]) else .panicked (errPanic e)

theorem there_ok (b : Nat) (a : A) (vs vf ve vl : Value) (l : List Int) (w : World) (hk : Wk w b a vs vf ve) (hl : Ints w w.heap.size vl l) (hll : l.length ≤ 1000000) :
    Calls Tryz.prog 65 #[pw b, vl] w (fun r w' => r = needEnd (l.all (inB a.states)) 2 ∧ Below w.heap.size w w') := by
  obtain ⟨A0, c, rfl, hr⟩ := id hl
  have c0 := hk.c0
  clear hk hl
  go_enter Tryz.func65, Tryz.ntmps65
  go_wp2
  go_loopw [8] (fun i wr => ∃ k : Nat, k ≤ l.length ∧ i = .int .i64 k ∧ wr = w ∧ (l.take k).all (inB a.states) = true) (fun i _ => l.length - (intOf i).toNat)
  case atStart => exact ⟨0, Nat.zero_le _, rfl, rfl, by simp⟩
  case round =>
    obtain ⟨k, hkl, rfl, rfl, hall⟩ := hrel
    have HA := Lib.hid hall
    clear hall
    by_cases hlt : k < l.length
    · obtain ⟨lb, lo, rfl, hlb, hlc⟩ := hr (by omega)
      have hcell := cell1 encI_eq hlc hlt
      have hi : (k : Int) < l.length := by omega
      have htk : l.take (k + 1) = l.take k ++ [l[k]] := List.take_succ_eq_append_getElem hlt
      have hmem : l[k] ∈ l := List.getElem_mem hlt
      generalize hx : l[k] = x at *
      have HT := Lib.hid (And.intro htk hmem)
      clear hr hlc htk hmem hx
      by_cases h0 : 0 ≤ x
      · by_cases h1 : x < a.states
        · have hb : inB a.states x = true := by simp [inB, h0, h1]
          have HB := Lib.hid hb
          clear hb
          go_wp2_with (go_at_call 124; refine (need_ok _ _).mono ?_; rintro e w1 ⟨rfl, rfl⟩)
          go_roundw
          case rel => exact ⟨k + 1, by omega, by go_num, by trivial, by rw [HT.out.1, List.all_append, HA.out]; simp [HB.out]⟩
          case measure => simp [intOf]; omega
        · have hb : l.all (inB a.states) = false := by
            rw [List.all_eq_false]
            exact ⟨x, HT.out.2, by simp [inB]; omega⟩
          have HB := Lib.hid hb
          clear hb
          go_wp2_with (go_at_call 124; refine (need_no _ _).mono ?_; rintro e w1 ⟨rfl, rfl⟩)
          exact ⟨rfl, by rw [HB.out]; rfl, Below.refl _ _⟩
      · have hb : l.all (inB a.states) = false := by
            rw [List.all_eq_false]
            exact ⟨x, HT.out.2, by simp [inB]; omega⟩
        have HB := Lib.hid hb
        clear hb
        go_wp2_with (go_at_call 124; refine (need_no _ _).mono ?_; rintro e w1 ⟨rfl, rfl⟩)
        exact ⟨rfl, by rw [HB.out]; rfl, Below.refl _ _⟩
    · clear hr
      go_wp2
      go_end0
      have hh := HA.out
      rw [List.take_of_length_le (by omega)] at hh
      exact ⟨by rw [hh]; rfl, Below.refl _ _⟩

/-- Is there a final among states? -/
def A.ends (a : A) (l : List Int) : Bool := l.any (fun s => a.final.any (fun x => s == x))

theorem ends1_pred (b : Nat) (a : A) (vs vf ve : Value) (ha : Fit a) (bb : Nat) (w : World) (hk : Wk w b a vs vf ve) (h1 : w.cell? ⟨bb, 0, none⟩ = some (pw b)) :
    Pred1 Tryz.prog (fun x => .int .i64 x) (.func (.func 136) #[] #[pw bb]) (fun _ => True) (fun s => a.final.any (fun x => s == x)) w := by
  refine ⟨_, _, rfl, Tryz.call136, fun W s _ hW => ?_⟩
  have q1 := (hW.cell (p := ⟨bb, 0, none⟩) (World.block_lt_of_cell? _ _ h1)).trans h1
  have hkW := hk.below hW
  have hc := contains_int vf a.final s W hkW.fa.f ha.f
  have c2 := hkW.c2
  obtain ⟨A0, c, rfl, _⟩ := id hkW.fa.f
  show Calls _ _ _ _ (fun r W' => r = .returned (.bool (a.final.any (fun x => s == x))) ∧ Below W.heap.size W W')
  generalize a.final.any (fun x => s == x) = res at *
  clear hkW hk h1 hW
  go_enter Tryz.func136, Tryz.ntmps136
  go_wp2_with (go_at_call 54; refine hc.mono ?_; rintro x w3 ⟨rfl, rfl⟩)
  go_ret
  exact ⟨rfl, Below.refl _ _⟩

theorem ends_ok (b : Nat) (a : A) (vs vf ve vl : Value) (l : List Int) (w : World) (hk : Wk w b a vs vf ve) (ha : Fit a) (hl : Ints w w.heap.size vl l) (hll : l.length ≤ 1000000) :
    Calls Tryz.prog 83 #[pw b, vl] w (fun r w' => r = .returned (.bool (a.ends l)) ∧ Below w.heap.size w w') := by
  obtain ⟨A0, c, rfl, _⟩ := id hl
  obtain ⟨W1, hW1⟩ : ∃ W1, w.alloc (.cells #[pw b] 91) = W1 := ⟨_, rfl⟩
  have d1 : Below w.heap.size w W1 := hW1 ▸ alloc1 w _
  have q1 : W1.cell? ⟨w.heap.size, 0, none⟩ = some (pw b) := by rw [← hW1, cell_new]; rfl
  have hp := ends1_pred b a vs vf ve ha w.heap.size W1 (hk.below d1) q1
  have hc := containsFunc_int _ _ l (fun _ => True) _ W1 (hl.below d1 d1.size) hp (fun _ _ => trivial) hll
  have hres : l.any (fun s => a.final.any (fun x => s == x)) = a.ends l := rfl
  rw [hres] at hc
  clear hres hp hk hl
  generalize a.ends l = res at *
  go_enter Tryz.func83, Tryz.ntmps83
  go_wp2_with (go_at_call 55; refine hc.mono ?_; rintro x w3 ⟨rfl, d3⟩)
  go_ret
  exact ⟨rfl, below_next d1 d3⟩
end Go.Proofs.YtakldmbbmefnbaaGreat
/- Rows of rows; a string's bytes. -/
namespace Go.Proofs.YtakldmbbmefnbaaGreat
open Go.RowKit Go.Sort Go.Proofs

abbrev Ro := Option Addr × Nat × Nat
abbrev vR (r : Ro) : Value := .slice r.1 r.2.1 r.2.2
def encR (r : Ro) : List Value := [.slice r.1 r.2.1 r.2.2]
theorem encR_len (r : Ro) : (encR r).length = 1 := rfl
theorem encR_one (r : Ro) : ∀ u ∈ encR r, u.oneCell' = true := by simp [encR, Value.oneCell']

/-- Each value is a row of one's own, of these numbers. -/
def Rws (w : World) (base : Nat) (rs : List Ro) (ls : List (List Int)) : Prop :=
  rs.length = ls.length ∧ ∀ (i : Nat) (h : i < rs.length) (h' : i < ls.length), Own encI 1 3 w base (vR rs[i]) ls[i]

section
variable {w w' : World} {base : Nat} {rs : List Ro} {ls : List (List Int)}
theorem Rws.below (h : Rws w base rs ls) (hb : Below w.heap.size w w') : Rws w' base rs ls := ⟨h.1, fun i h1 h2 => (h.2 i h1 h2).below hb⟩
theorem Rws.lower (h : Rws w base rs ls) {base' : Nat} (hb : base' ≤ base) : Rws w base' rs ls := ⟨h.1, fun i h1 h2 => (h.2 i h1 h2).lower hb⟩
theorem Rws.grown (h : Rws w base rs ls) {row : Option Nat} (hg : w.grownBy w' row) (hr : ∀ k, row = some k → ∃ cs z, w.heap[k]? = some (.cells cs 22 z)) : Rws w' base rs ls :=
  ⟨h.1, fun i h1 h2 => (h.2 i h1 h2).kept hg (fun k hk e => by
    obtain ⟨cs, z, hc⟩ := hr k e
    exact own_ne (h.2 i h1 h2) hc (by decide) hk)⟩
theorem Rws.nil (w : World) (base : Nat) : Rws w base [] [] := ⟨rfl, fun i h => absurd h (Nat.not_lt_zero i)⟩
theorem Rws.add (h : Rws w base rs ls) {r : Ro} {l : List Int} (ho : Own encI 1 3 w base (vR r) l) : Rws w base (rs ++ [r]) (ls ++ [l]) := by
  refine ⟨by simp [h.1], fun i h1 h2 => ?_⟩
  by_cases hi : i < rs.length
  · have hi' : i < ls.length := by rw [← h.1]; exact hi
    rw [List.getElem_append_left hi, List.getElem_append_left hi']
    exact h.2 i hi hi'
  · have h3 : i = rs.length := by simp at h1; omega
    subst h3
    have h4 : rs.length = ls.length := h.1
    rw [List.getElem_append_right (Nat.le_refl _), List.getElem_append_right (by omega)]
    simpa using ho
end

theorem own_row {e : TypeId} {w : World} {base : Nat} {v : Value} {rs : List Ro} (h : Own encR 1 e w base v rs) : ∀ k, blk v = some k → ∃ cs z, w.heap[k]? = some (.cells cs e z) := by
  intro k hk
  rcases h with ⟨rfl, A, rfl⟩ | ⟨b, cap, cur, rfl, hb, hp, _, _, hg, _⟩
  · cases A <;> simp [blk] at hk
  · obtain ⟨m, rfl⟩ : ∃ m, cap = m + 1 := ⟨cap - 1, by omega⟩
    simp [blk] at hk
    subst hk
    exact ⟨_, _, hg⟩

/-- '[]byte(s)': a new row of the string's bytes. -/
theorem conv_bytes (W : World) (word : List UInt8) : ∃ cc W2, Sem.run Tryz.prog (convert 9 39 (encStr word)) W = .ok (.slice (some ⟨W.heap.size, 0, none⟩) word.length cc) W2 ∧ Below W.heap.size W W2 ∧
    W2.heap.size = W.heap.size + 1 ∧ (∀ k (h : k < word.length), W2.cell? ⟨W.heap.size, k, none⟩ = some (.int .u8 word[k].toNat)) ∧ word.length ≤ cc := by
  have h := run_bytes_of_string (P := Tryz.prog) W 9 39 5 ⟨word.toArray⟩ Tryz.underlying9 Tryz.underlying39 Tryz.underlying5
  refine ⟨_, _, h, (Below.refl _ W).drew.alloc (Nat.le_refl _) _, by simp, fun k hk => ?_, ?_⟩
  · have := World.cell?_alloc_mark W.drew (bytesRow ⟨word.toArray⟩ (grownCap W (ByteArray.size ⟨word.toArray⟩) 0 5)) 5 ((bytesRow ⟨word.toArray⟩ (grownCap W (ByteArray.size ⟨word.toArray⟩) 0 5)).size, (bytesRow ⟨word.toArray⟩ (grownCap W (ByteArray.size ⟨word.toArray⟩) 0 5)).size + 1) k
    refine Eq.trans this ?_
    have h2 := bytesRow_at ⟨word.toArray⟩ (grownCap W (ByteArray.size ⟨word.toArray⟩) 0 5) k (by simpa using hk)
    simpa using h2
  · exact grownCap_ge W _ 0 _
end Go.Proofs.YtakldmbbmefnbaaGreat
/- walk: a run along a word. -/
namespace Go.Proofs.YtakldmbbmefnbaaGreat
open Go.RowKit Go.Sort Go.Proofs
set_option maxRecDepth 100000
set_option maxHeartbeats 400000

/-- To where a word leads. -/
noncomputable def A.after (a : A) (word : List UInt8) : List Int := word.foldl (fun l b => a.step l b.toNat) (a.clo a.start)
/-- The run along a word. -/
noncomputable def A.trace (a : A) (word : List UInt8) (k : Nat) : List (List Int) := (List.range (k + 1)).map (fun i => a.after (word.take i))
theorem A.trace_len (a : A) (word : List UInt8) (k : Nat) : (a.trace word k).length = k + 1 := by simp [A.trace]
theorem A.trace_get (a : A) (word : List UInt8) (k i : Nat) (h : i < (a.trace word k).length) : (a.trace word k)[i] = a.after (word.take i) := by simp [A.trace]
theorem A.trace_zero (a : A) (word : List UInt8) : a.trace word 0 = [a.clo a.start] := rfl
theorem A.trace_succ (a : A) (word : List UInt8) (k : Nat) (h : k < word.length) : a.trace word (k + 1) = a.trace word k ++ [a.step (a.after (word.take k)) word[k].toNat] := by
  unfold A.trace
  rw [List.range_succ, List.map_append]
  congr 1
  show [a.after (word.take (k + 1))] = _
  rw [List.take_succ_eq_append_getElem h]
  unfold A.after
  rw [List.foldl_append]
  rfl
theorem A.after_in {a : A} (ha : Fit a) (word : List UInt8) : (a.after word).all (inB a.states) = true ∧ (a.after word).length ≤ 1000 := by
  unfold A.after
  rcases List.eq_nil_or_concat word with rfl | ⟨l, x, rfl⟩
  · exact ⟨A.clo_in ha _, A.clo_len ha _⟩
  · rw [List.concat_eq_append, List.foldl_append]
    exact ⟨A.clo_in ha _, A.clo_len ha _⟩

theorem Own.at_R {e : TypeId} {w : World} {base : Nat} {v : Value} {xs : List Ro} (h : Own encR 1 e w base v xs) (h0 : 0 < xs.length) : ∃ b c, v = .slice (some ⟨b, 0, none⟩) xs.length c ∧ blk v = some b ∧ ∀ k (h : k < xs.length), w.cell? ⟨b, k, none⟩ = some (vR xs[k]) := by
  rcases h with ⟨rfl, _⟩ | ⟨b, cap, cur, rfl, hb, hp, h1, h2, hg, hs, ht⟩
  · exact absurd h0 (Nat.lt_irrefl 0)
  · refine ⟨b, cap, rfl, by obtain ⟨m, rfl⟩ : ∃ m, cap = m + 1 := ⟨cap - 1, by omega⟩; rfl, fun k hk => ?_⟩
    rw [cell_at hg k, ← Array.getElem?_toList]
    have h3 := flatMap_get encR_len xs k xs[k] 0 (vR xs[k]) (List.getElem?_eq_getElem hk) rfl
    rw [← ht, Nat.mul_one, Nat.add_zero, List.getElem?_take_of_lt (by omega), Nat.mul_one] at h3
    exact h3

theorem info_ro : (Tryz.prog.info? 22).map (fun i => (i.zero, i.size, i.bytes)) = some (some (.slice none 0 0), 1, 24) := info_ints

theorem trace_ok (b : Nat) (a : A) (vs vf ve : Value) (word : List UInt8) (w : World) (hk : Wk w b a vs vf ve) (ha : Fit a) (hw : word.length ≤ 1000000) :
    Calls Tryz.prog 80 #[pw b, encStr word] w (fun r w' => ∃ v rs, r = .returned v ∧ Own encR 1 22 w' w.heap.size v rs ∧ Rws w' w.heap.size rs (a.trace word word.length) ∧ Below w.heap.size w w') := by
  obtain ⟨i0, hi, hz0, hz1, hz2⟩ := info_parts info_ro
  have hc := closure_ok b a vs vf ve vs a.start w hk ha hk.fa.s (by have := ha.ok; simp only [A.ok, Bool.and_eq_true] at this; exact this.1.1.2) ha.s
  have hq1 := hk.c1
  obtain ⟨A0, c, rfl, _⟩ := id hk.fa.s
  go_enter Tryz.func80, Tryz.ntmps80
  go_wp2_with (go_at_call 66; refine hc.mono ?_; rintro e W1 ⟨v1, rfl, ho1, d1⟩; obtain ⟨A1, c1, rfl, hle1⟩ := ho1.form; obtain ⟨W2, hW2⟩ : ∃ W2, W1.alloc (.cells #[.slice A1 (a.clo a.start).length c1] 22) = W2 := ⟨_, rfl⟩; obtain ⟨cc, W3, hconv, d3, z3, hbytes, hcc⟩ := conv_bytes W2 word)
  have z2 : W2.heap.size = W1.heap.size + 1 := by rw [← hW2]; simp
  have d2 : Below W1.heap.size W1 W2 := hW2 ▸ alloc1 W1 _
  have o0 : Own encR 1 22 W2 w.heap.size (.slice (some ⟨W1.heap.size, 0, none⟩) 1 1) [(A1, (a.clo a.start).length, c1)] := by
    refine .inr ⟨W1.heap.size, 1, _, rfl, d1.size, by decide, by simp, by decide, by rw [← hW2]; exact heap_alloc_new W1 _, by simp, rfl⟩
  have r0 : Rws W2 w.heap.size [(A1, (a.clo a.start).length, c1)] (a.trace word 0) := by
    rw [A.trace_zero]
    exact (Rws.nil _ _).add (rs := []) (ls := []) (ho1.below d2)
  have dw2 := below_next d1 d2
  have dw3 := below_next dw2 d3
  have hbl : w.heap.size ≤ W2.heap.size := dw2.size
  have HZ := Lib.hid (And.intro z2 (And.intro z3 hbl))
  have o0 := o0.below d3
  have r0 := r0.below d3
  have hbv0 : blk (.slice (some ⟨W1.heap.size, 0, none⟩) 1 1) ≠ some W2.heap.size := by simp [blk]; omega
  clear hW2 d1 d2 d3 ho1 z2 z3 hbl hconv hc hq1 dw2
  go_loopw [22, 6] (fun i v wr => ∃ (k : Nat) (rs : List Ro), k ≤ word.length ∧ i = .int .i64 k ∧ Own encR 1 22 wr w.heap.size v rs ∧ Rws wr w.heap.size rs (a.trace word k) ∧ Below w.heap.size w wr ∧ blk v ≠ some W2.heap.size ∧ (∀ j (h : j < word.length), wr.cell? ⟨W2.heap.size, j, none⟩ = some (.int .u8 word[j].toNat))) (fun i _ _ => word.length - (intOf i).toNat)
  case atStart => exact ⟨0, _, Nat.zero_le _, rfl, o0, r0, dw3, hbv0, hbytes⟩
  case round =>
    obtain ⟨k, rs, hkl, rfl, hv, hrs, hB, hbv, hby⟩ := hrel
    have hlen : rs.length = k + 1 := by rw [hrs.1, A.trace_len]
    obtain ⟨bo, cv, rfl, hblk, hcells⟩ := hv.at_R (by omega)
    by_cases hlt : k < word.length
    · have hlast := hrs.2 k (by omega) (by rw [A.trace_len]; omega)
      rw [A.trace_get] at hlast
      have hcell := hcells k (by omega)
      have hbyte := hby k hlt
      obtain ⟨hin, hln⟩ := A.after_in ha (word.take k)
      have hst := step_ok b a _ vf ve _ _ (word[k].toNat) wr (hk.below hB) ha (hlast.sl encI_len) hin (by omega) (UInt8.toNat_lt _)
      obtain ⟨A5, c5, hr5, hle5⟩ := hlast.form
      obtain ⟨⟨ra, rn, rc⟩, hrk⟩ : ∃ r, rs[k] = r := ⟨_, rfl⟩
      rw [hrk] at hcell hr5 hst
      simp only [vR] at hcell hr5 hst
      injection hr5 with h51 h52 h53
      have hnx := A.trace_succ a word k hlt
      generalize a.after (word.take k) = cur at *
      generalize a.clo a.start = st0 at *
      generalize a.step cur word[k].toNat = nxt at *
      generalize hy : word[k].toNat = y at *
      have HX := Lib.hid (And.intro hrs (And.intro hnx (And.intro hby hlen)))
      rw [hlen] at hv hblk hbv ⊢
      have hy256 : y < 256 := hy ▸ UInt8.toNat_lt _
      have hi1 : (k : Int) < word.length := by omega
      have hbyt : (4 * (rs.length + 1) + 4096) * 24 ≤ 140737488355328 := by rw [HX.out.2.2.2]; omega
      have hwl2 : rs.length + 1 ≤ 4611686018427387904 := by rw [HX.out.2.2.2]; omega
      have hbs := hB.size
      subst h51; subst h52; subst h53
      clear hrs hnx hby hlast hcells hln hin hrk hk hlen r0 o0 hbytes hy hbv0
      go_wp2_with first
        | (go_at_call 76; refine hst.mono ?_; rintro e w2 ⟨v2, rfl, ho2, d2⟩; obtain ⟨A2, c2, rfl, hle2⟩ := ho2.form)
        | (at_builtin; go_loud (refine wpList_append_my _ rfl (.tmp 26) (.tmp 36) 45 rfl encR_len encR_one 22 i0 _ Tryz.underlying45 hi hz0 hz1 hz2 rfl (by decide) (base := w.heap.size) rfl (xs := rs) (hv.below (below_next d2 (alloc1 w2 _))) rfl (ys := [(A2, nxt.length, c2)]) (Sl_one (enc := encR) (size := 1) w2 (A2, nxt.length, c2) _ _) hbyt hwl2 (Nat.le_trans hbs (Nat.le_trans d2.size (alloc1 w2 _).size)) ?_); intro v3 w3 ho3 hg3 hb3 hl3; obtain ⟨A3, c3, rfl, hle3⟩ := ho3.form)
      have hba : Below wr.heap.size wr (w2.alloc (.cells #[.slice A2 nxt.length c2] 22)) := below_next d2 (alloc1 w2 _)
      have hvA := hv.below hba
      go_roundw
      case rel =>
        refine ⟨k + 1, rs ++ [(A2, nxt.length, c2)], by omega, by go_num, by simpa using ho3, ?_, (hB.trans (hba.mono hbs)).trans hl3, ?_, fun j hj => ?_⟩
        · rw [HX.out.2.1]
          refine Rws.grown ?_ hg3 (own_row hvA)
          exact (HX.out.1.below hba).add ((ho2.below (alloc1 w2 _)).lower hbs)
        · intro e
          have e' : blk (Value.slice A3 (rs ++ [(A2, nxt.length, c2)]).length c3) = some W2.heap.size := by simpa using e
          rcases hb3 with h | h | h
          · have h9 : blk (Value.slice A3 (rs ++ [(A2, nxt.length, c2)]).length c3) = blk (Value.slice (some ⟨bo, 0, none⟩) (k + 1) cv) := h
            exact hbv (h9 ▸ e')
          · rw [h] at e'
            have hlt9 := World.block_lt_of_cell? _ _ hbyte
            have := hba.size
            injection e' with e'
            simp only at hlt9
            omega
          · rw [h] at e'
            cases e'
        · have h8 := HX.out.2.2.1 j hj
          have h9 := (hba.cell (p := ⟨W2.heap.size, j, none⟩) (World.block_lt_of_cell? _ _ h8)).trans h8
          refine (World.cell?_of_block (hg3.block W2.heap.size (World.block_lt_of_cell? _ _ h9) (fun e => hbv e.symm))).trans h9
      case measure => simp [intOf]; omega
    · have hkk : k = word.length := by omega
      subst hkk
      have hi1 : ¬ (word.length : Int) < word.length := by omega
      clear hcells hby hk hbytes r0 o0 hbv0
      have hv2 := hv
      rw [hlen] at hv2
      have HX := Lib.hid hrs
      clear hrs
      go_wp2
      go_ret
      exact ⟨_, rfl, rs, hv2, HX.out, hB⟩
end Go.Proofs.YtakldmbbmefnbaaGreat
/- walk: alive. -/
namespace Go.Proofs.YtakldmbbmefnbaaGreat
open Go.RowKit
set_option maxRecDepth 100000
set_option maxHeartbeats 1000000

theorem Fit.start {a : A} (ha : Fit a) : a.start.all (inB a.states) = true := by have := ha.ok; simp only [A.ok, Bool.and_eq_true] at this; exact this.1.1.2
theorem Fit.final {a : A} (ha : Fit a) : a.final.all (inB a.states) = true := by have := ha.ok; simp only [A.ok, Bool.and_eq_true] at this; exact this.1.2

/-- To where one comes at all. -/
noncomputable def A.reach (a : A) (l : List Int) : List Int := cl a.states.toNat (a.pairs false (fun _ => true)) l
/-- From where one comes to a final. -/
noncomputable def A.alive (a : A) : List Int := cl a.states.toNat (a.pairs true (fun _ => true)) a.final
noncomputable def A.live (a : A) : List Int := (a.reach a.start).filter (fun s => a.alive.any (fun x => s == x))

theorem cl_len (n : Nat) (ps : List (Int × Int)) (l : List Int) : (cl n ps l).length ≤ n := by
  unfold cl
  refine Nat.le_trans (List.length_filter_le _ _) ?_
  simp
theorem Fit.small {a : A} (ha : Fit a) : a.states.toNat ≤ 1000 := by have := ha.n; omega

theorem reach_ok (b : Nat) (a : A) (vs vf ve vl : Value) (l : List Int) (w : World) (hk : Wk w b a vs vf ve) (ha : Fit a) (hl : Ints w w.heap.size vl l) (hlo : l.all (inB a.states) = true) (hll : l.length ≤ 1000000) :
    Calls Tryz.prog 68 #[pw b, vl, .bool false, .func (.func 69) #[] #[]] w (fun r w' => ∃ v', r = .returned v' ∧ Own encI 1 3 w' w.heap.size v' (a.reach l) ∧ Below w.heap.size w w') :=
  grown_ok b a vs vf ve vl _ l false (fun _ => true) w hk ha.ok hl hlo (each_pred w) ha.n hll ha.e

theorem alive_ok (b : Nat) (a : A) (vs vf ve : Value) (w : World) (hk : Wk w b a vs vf ve) (ha : Fit a) :
    Calls Tryz.prog 71 #[pw b] w (fun r w' => ∃ v', r = .returned v' ∧ Own encI 1 3 w' w.heap.size v' a.alive ∧ Below w.heap.size w w') := by
  have hg := grown_ok b a vs vf ve vf _ a.final true (fun _ => true) w hk ha.ok hk.fa.f ha.final (each_pred w) ha.n ha.f ha.e
  have hq2 := hk.c2
  obtain ⟨A0, c, rfl, _⟩ := id hk.fa.f
  clear hk
  go_enter Tryz.func71, Tryz.ntmps71
  go_wp2_with (go_at_call 68; refine hg.mono ?_; rintro e w1 ⟨v1, rfl, ho1, hb1⟩; obtain ⟨A1, c1, rfl, hle1⟩ := ho1.form)
  go_ret
  exact ⟨_, rfl, ho1, hb1⟩

theorem live1_pred (al : List Int) (val : Value) (ba : Nat) (w : World) (h1 : w.cell? ⟨ba, 0, none⟩ = some val) (ha : Ints w w.heap.size val al) (hl : al.length ≤ 1000000) :
    Pred1 Tryz.prog (fun x => .int .i64 x) (.func (.func 130) #[] #[pw ba]) (fun _ => True) (fun s => !al.any (fun x => s == x)) w := by
  refine ⟨_, _, rfl, Tryz.call130, fun W s _ hW => ?_⟩
  have q1 := (hW.cell (p := ⟨ba, 0, none⟩) (World.block_lt_of_cell? _ _ h1)).trans h1
  have hc := contains_int val al s W (ha.below hW hW.size) hl
  obtain ⟨A0, c, rfl, _⟩ := id ha
  show Calls _ _ _ _ (fun r W' => r = .returned (.bool (!al.any (fun x => s == x))) ∧ Below W.heap.size W W')
  generalize al.any (fun x => s == x) = res at *
  clear ha h1 hW
  go_enter Tryz.func130, Tryz.ntmps130
  go_wp2_with (go_at_call 54; refine hc.mono ?_; rintro x w3 ⟨rfl, rfl⟩)
  go_ret
  exact ⟨rfl, Below.refl _ _⟩
end Go.Proofs.YtakldmbbmefnbaaGreat
/- slices.DeleteFunc on a row of one's own; walk.live. -/
namespace Go.Proofs.YtakldmbbmefnbaaGreat
open Go.RowKit
set_option maxRecDepth 100000
set_option maxHeartbeats 1000000

theorem setCells_heap (b : Nat) : ∀ (vs : List Value) (o : Nat) (w : World) (cur : Array Value) (t : TypeId), w.heap[b]? = some (.cells cur t (0, 0)) →
    ∃ cur', (w.setCells b o vs).heap[b]? = some (.cells cur' t (0, 0)) ∧ cur'.size = cur.size ∧ ∀ m, m < o → cur'[m]? = cur[m]?
  | [], _, _, cur, _, h => ⟨cur, h, rfl, fun _ _ => rfl⟩
  | v :: r, o, w, cur, t, h => by
    obtain ⟨c2, h1, h2, h3⟩ := setCells_heap b r (o + 1) (w.setCell ⟨b, o, none⟩ v) _ t (heap_set h o v)
    refine ⟨c2, h1, by simpa using h2, fun m hm => ?_⟩
    rw [h3 m (by omega), Array.getElem?_setIfInBounds_ne (by omega)]
theorem setCells_below {w0 : World} (b : Nat) (hb : w0.heap.size ≤ b) : ∀ (vs : List Value) (o : Nat) (w : World), Below w0.heap.size w0 w → Below w0.heap.size w0 (w.setCells b o vs)
  | [], _, _, h => h
  | v :: r, o, _, h => setCells_below b hb r (o + 1) _ (h.setCell hb v)

theorem delete_own (w0 w : World) (hb0 : Below w0.heap.size w0 w) (v fv : Value) (xs : List Int) (p : Int → Bool) (ho : Own encI 1 3 w w0.heap.size v xs) (hp : Pred1 Tryz.prog (fun x => .int .i64 x) fv (fun _ => True) p w0) (hl : xs.length ≤ 1000000) :
    Calls Tryz.prog 129 #[v, fv] w (fun r w' => ∃ v', r = .returned v' ∧ Own encI 1 3 w' w0.heap.size v' (xs.filter (fun x => !p x)) ∧ Below w0.heap.size w0 w') := by
  have hix := indexFunc_int v fv xs (fun _ => True) p w (ho.sl encI_len) (hp.below hb0) (fun _ _ => trivial) hl
  obtain ⟨g, lb, rfl, hen, hpc⟩ := id hp
  clear hp
  cases hfx : xs.findIdx? p with
  | none =>
    have hno : ∀ x ∈ xs, p x = false := by simpa using hfx
    have hidx : idxOf p xs = -1 := by unfold idxOf; rw [hfx]
    have hfl : xs.filter (fun x => !p x) = xs := List.filter_eq_self.2 (fun x hx => by simp [hno x hx])
    rw [hfl]
    rw [hidx] at hix
    obtain ⟨A1, c1, rfl, hle1⟩ := ho.form
    clear hno hfl hidx hfx
    go_enter Tryz.func129, Tryz.ntmps129
    go_wp2_with (go_at_call 120; refine hix.mono ?_; rintro x w3 ⟨rfl, hb3⟩)
    go_ret
    exact ⟨_, rfl, ho.below hb3, below_next hb0 hb3⟩
  | some k0 =>
    obtain ⟨hk0, hpk, hbef⟩ := List.findIdx?_eq_some_iff_getElem.1 hfx
    have hidx : idxOf p xs = (k0 : Int) := by unfold idxOf; rw [hfx]
    rw [hidx] at hix
    have hkept : (xs.take (k0 + 1)).filter (fun x => !p x) = xs.take k0 := by
      rw [List.take_succ_eq_append_getElem hk0, List.filter_append]
      have h1 : (xs.take k0).filter (fun x => !p x) = xs.take k0 := by
        refine List.filter_eq_self.2 (fun x hx => ?_)
        obtain ⟨j, hj, rfl⟩ := List.getElem_of_mem hx
        rw [List.getElem_take]
        have := hbef j (by simp at hj; omega)
        simpa using this
      rw [h1]
      simp [hpk]
    rcases ho with ⟨rfl, _⟩ | ⟨b, cap, cur, rfl, hbb, hp, h1, h2, hg, hs, ht⟩
    · simp at hk0
    have hcur : ∀ m (h : m < xs.length), cur[m]? = some (.int .i64 xs[m]) := by
      intro m hm
      have h3 := flatMap_get encI_len xs m xs[m] 0 (.int .i64 xs[m]) (List.getElem?_eq_getElem hm) rfl
      rw [← ht, Nat.mul_one, Nat.add_zero, List.getElem?_take_of_lt (by omega), Nat.mul_one] at h3
      simpa using h3
    have hi0 : ((k0 : Int) == -1) = false := by simp
    have HS := Lib.hid (And.intro hs (And.intro hkept (And.intro hk0 (And.intro hcur hg))))
    clear hpk hbef hidx hkept hcur ht hs hfx
    go_enter Tryz.func129, Tryz.ntmps129
    go_wp2_with (go_at_call 120; refine hix.mono ?_; rintro x w3 ⟨rfl, hb3⟩)
    have hg3 := (hb3.block b (Array.getElem?_eq_some_iff.1 hg).1).trans hg
    have hb03 := below_next hb0 hb3
    clear hb3 hix hg
    go_loopw [5, 6] (fun i j wr => ∃ (n m : Nat) (cu : Array Value), k0 + 1 ≤ m ∧ m ≤ xs.length ∧ i = .int .i64 n ∧ j = .int .i64 m ∧ n = ((xs.take m).filter (fun x => !p x)).length ∧ n < m ∧
      wr.heap[b]? = some (.cells cu 3 (0, 0)) ∧ cu.size = cur.size ∧ (∀ q (h : q < ((xs.take m).filter (fun x => !p x)).length), cu[q]? = some (.int .i64 (((xs.take m).filter (fun x => !p x))[q]))) ∧ (∀ q (h : q < xs.length), m ≤ q → cu[q]? = some (.int .i64 xs[q])) ∧ Below w0.heap.size w0 wr) (fun _ j _ => xs.length - (intOf j).toNat)
    case atStart =>
      obtain ⟨hs, hkept, hk0, hcur, hg⟩ := HS.out
      refine ⟨k0, k0 + 1, cur, Nat.le_refl _, hk0, rfl, by go_num, ?_, by omega, hg3, rfl, ?_, fun q h _ => hcur q h, hb03⟩
      · rw [hkept]; simp; omega
      · rw [hkept]
        intro q hq
        rw [List.getElem_take]
        exact hcur q _
    case round =>
      obtain ⟨n, m, cu, hm0, hml, rfl, rfl, hn, hnm, hgr, hcs, hpre, hpost, hB⟩ := hrel
      have hs' := HS.out.1
      by_cases hlt : m < xs.length
      · have hcell : wr.cell? ⟨b, m, none⟩ = some (.int .i64 xs[m]) := by rw [cell_at hgr]; exact hpost m hlt (Nat.le_refl _)
        have hcall := hpc wr xs[m] trivial hB
        have htk : (xs.take (m + 1)).filter (fun x => !p x) = (xs.take m).filter (fun x => !p x) ++ (if p xs[m] then [] else [xs[m]]) := by
          rw [List.take_succ_eq_append_getElem hlt, List.filter_append, List.filter_cons]
          cases p xs[m] <;> simp
        have hi1 : (m : Int) < xs.length := by omega
        have hncu : n < cu.size := by omega
        obtain ⟨u, hu⟩ : ∃ u, cu[n]? = some u := ⟨cu[n], Array.getElem?_eq_getElem hncu⟩
        have HX := Lib.hid (And.intro hpre (And.intro hpost (And.intro hn hs')))
        have hxm : ∃ x, xs[m] = x := ⟨_, rfl⟩
        obtain ⟨x, hx⟩ := hxm
        rw [hx] at hcell hcall htk
        have HY := Lib.hid hx
        clear hpre hpost hx hpc hs' hn
        cases hpx : p x with
        | true =>
          rw [hpx] at hcall htk
          have HT := Lib.hid htk
          clear hpx htk
          go_wp2
          refine hcall.mono ?_
          rintro e w2 ⟨rfl, hb2⟩
          have hgr2 := (hb2.block b (Array.getElem?_eq_some_iff.1 hgr).1).trans hgr
          have hB2 := below_next hB hb2
          go_wp2
          go_roundw
          case rel =>
            obtain ⟨hpre, hpost, hn, hs'⟩ := HX.out
            have ht9 := HT.out
            simp only [if_true, List.append_nil] at ht9
            refine ⟨n, m + 1, cu, by omega, by omega, rfl, by go_num, by rw [ht9]; exact hn, by omega, hgr2, hcs, by rw [ht9]; exact hpre, fun q h1 h2 => hpost q h1 (by omega), hB2⟩
          case measure => simp [intOf]; omega
        | false =>
          rw [hpx] at hcall htk
          have HT := Lib.hid htk
          clear hpx htk
          go_wp2
          refine hcall.mono ?_
          rintro e w2 ⟨rfl, hb2⟩
          have hgr2 := (hb2.block b (Array.getElem?_eq_some_iff.1 hgr).1).trans hgr
          have hB2 := below_next hB hb2
          have hcn : w2.cell? ⟨b, n, none⟩ = some u := by rw [cell_at hgr2]; exact hu
          have hfn := free_at hgr2 n
          have hi2 : (n : Int) < xs.length := by omega
          go_wp2
          go_roundw
          case rel =>
            obtain ⟨hpre, hpost, hn, hs'⟩ := HX.out
            have ht9 := HT.out
            simp only [Bool.false_eq_true, if_false] at ht9
            refine ⟨n + 1, m + 1, cu.setIfInBounds n (.int .i64 x), by omega, by omega, by go_num, by go_num, by rw [ht9, List.length_append, ← hn]; rfl, by omega, heap_set hgr2 n _, by simpa using hcs, ?_, ?_, hB2.setCell hbb _⟩
            · rw [ht9]
              intro q hq
              by_cases hqn : q < n
              · rw [Array.getElem?_setIfInBounds_ne (by omega), List.getElem_append_left (by omega)]
                exact hpre q (by omega)
              · have : q = n := by simp at hq; omega
                subst this
                rw [Array.getElem?_setIfInBounds_self_of_lt hncu, List.getElem_append_right (by omega)]
                simp
            · intro q h1 h2
              rw [Array.getElem?_setIfInBounds_ne (by omega)]
              exact hpost q h1 (by omega)
          case measure => simp [intOf]; omega
      · have hmm : m = xs.length := by omega
        subst hmm
        rw [List.take_length] at hn hpre
        have hcapn : ¬ cap = n := by omega
        have hi1 : ¬ (xs.length : Int) < xs.length := by omega
        have hi2 : (n : Int) < xs.length := by omega
        have hi3 : (n : Int) ≤ xs.length := by omega
        have hcl := fun ty => Lib.run_clear_slice (P := Tryz.prog) wr 22 3 ty (.int .i64 0) Tryz.underlying22 (fun w => Tryz.zeroValue3 w) rfl rfl b n (xs.length - n) (cap - n) (by omega)
          (fun j hj => by rw [cell_at hgr, Array.getElem?_eq_getElem (by omega)]; rfl) (fun j hj => free_at hgr _)
        obtain ⟨c2, hc2, hc3, hc4⟩ := setCells_heap b (List.replicate (xs.length - n) (.int .i64 0)) n wr cu 3 hgr
        have hB9 := setCells_below b hbb (List.replicate (xs.length - n) (.int .i64 0)) n wr hB
        have HX := Lib.hid (And.intro hpre (And.intro hn (And.intro hc4 (And.intro hs' (And.intro hc2 (And.intro hc3 hB9))))))
        clear hpre hpost hc4 hs' hn hpc hen hc2 hc3 hB9
        go_wp2
        go_ret
        obtain ⟨hpre, hn, hc4, hs', hc2, hc3, hB9⟩ := HX.out
        refine ⟨_, rfl, .inr ⟨b, cap, c2, by rw [← hn]; rfl, hbb, hp, by omega, h2, hc2, by omega, ?_⟩, hB9⟩
        rw [encI_flat, Nat.mul_one]
        apply List.ext_getElem?
        intro q
        by_cases hq : q < (xs.filter (fun x => !p x)).length
        · rw [List.getElem?_take_of_lt hq, Array.getElem?_toList, hc4 q (by omega), hpre q hq]
          simp [hq]
        · rw [List.getElem?_take_eq_none (by omega), List.getElem?_eq_none (by simp; simp at hq; omega)]

theorem live_ok (b : Nat) (a : A) (vs vf ve : Value) (w : World) (hk : Wk w b a vs vf ve) (ha : Fit a) :
    Calls Tryz.prog 73 #[pw b] w (fun r w' => ∃ v', r = .returned v' ∧ Own encI 1 3 w' w.heap.size v' a.live ∧ Below w.heap.size w w') := by
  have hal := alive_ok b a vs vf ve w hk ha
  have hall : a.alive.length ≤ 1000000 := Nat.le_trans (cl_len ..) (Nat.le_trans ha.small (by decide))
  have hrl : (a.reach a.start).length ≤ 1000000 := Nat.le_trans (cl_len ..) (Nat.le_trans ha.small (by decide))
  have hres : (a.reach a.start).filter (fun x => !(!a.alive.any (fun y => x == y))) = a.live := by simp [A.live]
  have hrc := fun W (h : Wk W b a vs vf ve) => reach_ok b a vs vf ve vs a.start W h ha h.fa.s ha.start ha.s
  generalize a.reach a.start = re at *
  generalize a.alive = al at *
  generalize a.live = li at *
  have hlt := hk.lt
  have hq1 := hk.c1
  obtain ⟨A0, c, rfl, _⟩ := id hk.fa.s
  go_enter Tryz.func73, Tryz.ntmps73
  go_wp2_with (go_at_call 71; refine hal.mono ?_; rintro e w1 ⟨v1, rfl, ho1, hb1⟩; obtain ⟨A1, c1, rfl, hle1⟩ := ho1.form; obtain ⟨W2, hW2⟩ : ∃ W2, w1.alloc (.cells #[.slice A1 al.length c1] 22) = W2 := ⟨_, rfl⟩; have d2 : Below w1.heap.size w1 W2 := hW2 ▸ alloc1 w1 _; have hk2 := (hk.below hb1).below d2; have hq2 := hk2.c1; have hrc2 := hrc W2 hk2)
  refine hrc2.mono ?_
  rintro e w3 ⟨v3, rfl, ho3, hb3⟩
  obtain ⟨A3, c3, rfl, hle3⟩ := ho3.form
  have z2 : W2.heap.size = w1.heap.size + 1 := by rw [← hW2]; simp
  have q2 : W2.cell? ⟨w1.heap.size, 0, none⟩ = some (.slice A1 al.length c1) := by rw [← hW2, cell_new]; rfl
  have hpr := live1_pred al _ w1.heap.size W2 q2 ((ho1.sl encI_len).below d2 d2.size) hall
  have hde := delete_own W2 w3 hb3 _ _ re _ ho3 hpr hrl
  rw [hres] at hde
  have dw2 := below_next hb1 d2
  clear z2 q2 hpr hres hrc hal hrc2 hq2 hk2 hW2 d2
  go_wp2_with (go_at_call 129; refine hde.mono ?_; rintro e w4 ⟨v4, rfl, ho4, hb4⟩; obtain ⟨A4, c4, rfl, hle4⟩ := ho4.form)
  go_ret
  exact ⟨_, rfl, ho4.lower dw2.size, below_next dw2 hb4⟩
end Go.Proofs.YtakldmbbmefnbaaGreat
