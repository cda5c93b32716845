/- The words of these proofs for memory: a slice that reads as a list, one that the call owns, and how worlds grow. -/
import Derived.WalkKit
import Derived.WalkLawsBesides
import Derived.WalkSpells
import Derived.Laws.EntriesVeiled
import Derived.Deep.Draws
import Derived.Lib.Hide
namespace Go.Proofs.Ytakldmbbmefnbaa
open Go.RowKit

/-- One cell a value. -/
def one {α : Type} (f : α → Value) (x : α) : List Value := [f x]

/-- The slice value v reads, below block B, as the list xs: element i are the cells 'enc x' from i * size on. -/
def Sl {α : Type} (enc : α → List Value) (size : Nat) (w : World) (B : Nat) (v : Value) (xs : List α) : Prop :=
  ∃ A c, v = .slice A xs.length c ∧ (0 < xs.length → ∃ b o, A = some ⟨b, o, none⟩ ∧ b < B ∧ ∀ i x, xs[i]? = some x → ∀ j u, (enc x)[j]? = some u → w.cell? ⟨b, o + i * size + j, none⟩ = some u)

/-- The block of a slice value that has room. -/
def blk : Value → Option Nat
  | .slice (some a) _ (_ + 1) => some a.block
  | _ => none

/-- The slice value v is a row of the call's own, of element type e, holding xs: nothing else is known to lie in its block, from block 'base' on. -/
def Own {α : Type} (enc : α → List Value) (size : Nat) (e : TypeId) (w : World) (base : Nat) (v : Value) (xs : List α) : Prop :=
  (xs = [] ∧ ∃ A, v = .slice A 0 0) ∨
  ∃ b cap cur, v = .slice (some ⟨b, 0, none⟩) xs.length cap ∧ base ≤ b ∧ 0 < cap ∧ xs.length ≤ cap ∧ cap ≤ maxLen ∧ w.heap[b]? = some (.cells cur e (0, 0)) ∧ cap * size ≤ cur.size ∧ cur.toList.take (xs.length * size) = xs.flatMap enc

section
variable {α : Type} {enc : α → List Value} {size : Nat} {e : TypeId} {w w' : World} {B B' base : Nat} {v : Value} {xs : List α}

theorem Sl.nil (A : Option Addr) (c : Nat) : Sl enc size w B (.slice A 0 c) ([] : List α) := ⟨A, c, rfl, fun h => absurd h (by simp)⟩

theorem Sl.keep (h : Sl enc size w B v xs) (hk : ∀ p : Addr, p.block < B → w'.cell? p = w.cell? p) (hB : B ≤ B') : Sl enc size w' B' v xs := by
  obtain ⟨A, c, hv, hr⟩ := h
  refine ⟨A, c, hv, fun hn => ?_⟩
  obtain ⟨b, o, hA, hb, hc⟩ := hr hn
  exact ⟨b, o, hA, by omega, fun i x hx j u hu => (hk _ hb).trans (hc i x hx j u hu)⟩

theorem Sl.below (h : Sl enc size w B v xs) (hb : Below B w w') (hB : B ≤ B') : Sl enc size w' B' v xs := h.keep (fun _ hp => hb.cell hp) hB
theorem Sl.more (h : Sl enc size w B v xs) (hB : B ≤ B') : Sl enc size w B' v xs := h.keep (fun _ _ => rfl) hB
theorem Sl.form (h : Sl enc size w B v xs) : ∃ A c, v = .slice A xs.length c := ⟨_, _, h.choose_spec.choose_spec.1⟩

theorem Own.form (h : Own enc size e w base v xs) : ∃ A c, v = .slice A xs.length c ∧ xs.length ≤ c := by
  rcases h with ⟨rfl, A, rfl⟩ | ⟨b, cap, cur, rfl, _, _, hc, _⟩
  · exact ⟨A, 0, rfl, by simp⟩
  · exact ⟨_, _, rfl, hc⟩

theorem Own.nil (A : Option Addr) : Own enc size e w base (.slice A 0 0) ([] : List α) := .inl ⟨rfl, A, rfl⟩

theorem Own.lt (h : Own enc size e w base v xs) : ∀ k, blk v = some k → base ≤ k ∧ k < w.heap.size := by
  intro k hk
  rcases h with ⟨rfl, A, rfl⟩ | ⟨b, cap, cur, rfl, hb, hp, _, _, hg, _⟩
  · cases A <;> simp [blk] at hk
  · obtain ⟨m, rfl⟩ : ∃ m, cap = m + 1 := ⟨cap - 1, by omega⟩
    simp [blk] at hk
    subst hk
    exact ⟨hb, (Array.getElem?_eq_some_iff.1 hg).1⟩

theorem Own.kept {row : Option Nat} (h : Own enc size e w base v xs) (hg : w.grownBy w' row) (hne : ∀ k, blk v = some k → row ≠ some k) : Own enc size e w' base v xs := by
  rcases h with h | ⟨b, cap, cur, rfl, hb, hp, h1, h2, hh, rest⟩
  · exact .inl h
  · refine .inr ⟨b, cap, cur, rfl, hb, hp, h1, h2, ?_, rest⟩
    obtain ⟨m, rfl⟩ : ∃ m, cap = m + 1 := ⟨cap - 1, by omega⟩
    rw [hg.block b (Array.getElem?_eq_some_iff.1 hh).1 (fun he => hne b (by simp [blk]) he.symm)]
    exact hh

theorem grownBy_of_below {row : Option Nat} (h : Below w.heap.size w w') : w.grownBy w' row := ⟨h.os, h.tape, h.output, h.size, fun k hk _ => h.block k hk⟩

theorem Own.below (h : Own enc size e w base v xs) (hb : Below w.heap.size w w') : Own enc size e w' base v xs :=
  h.kept (row := none) (grownBy_of_below hb) (by simp)

theorem Own.lower (h : Own enc size e w base v xs) {base' : Nat} (hb : base' ≤ base) : Own enc size e w base' v xs := by
  rcases h with h | ⟨b, cap, cur, rfl, h1, rest⟩
  · exact .inl h
  · exact .inr ⟨b, cap, cur, rfl, by omega, rest⟩

theorem flatMap_get {α : Type} {enc : α → List Value} {size : Nat} (hlen : ∀ x, (enc x).length = size) : ∀ (xs : List α) (i : Nat) (x : α) (j : Nat) (u : Value), xs[i]? = some x → (enc x)[j]? = some u → (xs.flatMap enc)[i * size + j]? = some u
  | [], i, x, j, u, hx, _ => by simp at hx
  | y :: ys, 0, x, j, u, hx, hu => by
    simp at hx; subst hx
    have hj : j < (enc y).length := (List.getElem?_eq_some_iff.1 hu).1
    simp [List.flatMap_cons, List.getElem?_append_left hj, hu]
  | y :: ys, i + 1, x, j, u, hx, hu => by
    simp at hx
    have := flatMap_get hlen ys i x j u hx hu
    rw [List.flatMap_cons, List.getElem?_append_right (by rw [hlen, Nat.succ_mul]; omega), hlen]
    rw [← this]
    congr 1
    rw [Nat.succ_mul]; omega

theorem flatMap_len {α : Type} {enc : α → List Value} {size : Nat} (hlen : ∀ x, (enc x).length = size) (xs : List α) : (xs.flatMap enc).length = xs.length * size := by
  induction xs with
  | nil => simp
  | cons y ys ih => rw [List.flatMap_cons, List.length_append, ih, hlen, List.length_cons, Nat.succ_mul]; omega

theorem Own.sl (hlen : ∀ x, (enc x).length = size) (h : Own enc size e w base v xs) : Sl enc size w w.heap.size v xs := by
  rcases h with ⟨rfl, A, rfl⟩ | ⟨b, cap, cur, rfl, hb, hp, h1, h2, hh, hs, ht⟩
  · exact Sl.nil A 0
  · refine ⟨_, _, rfl, fun _ => ⟨b, 0, rfl, (Array.getElem?_eq_some_iff.1 hh).1, fun i x hx j u hu => ?_⟩⟩
    have hg := flatMap_get hlen xs i x j u hx hu
    rw [← ht] at hg
    have hu' := List.getElem?_take .. ▸ hg
    split at hu'
    · simp [World.cell?, hh, ← hu']
    · simp at hu'
end

/-- Every block of w but those of S lies as it lay. -/
structure But (S : Nat → Prop) (w w' : World) : Prop where
  os : w'.os = w.os
  tape : w'.tape = w.tape
  output : w'.output = w.output
  size : w.heap.size ≤ w'.heap.size
  block : ∀ k, k < w.heap.size → ¬ S k → w'.heap[k]? = w.heap[k]?

section
variable {S T : Nat → Prop} {a w w' : World}
theorem But.refl (S : Nat → Prop) (w : World) : But S w w := ⟨rfl, rfl, rfl, Nat.le_refl _, fun _ _ _ => rfl⟩
theorem But.trans {b c : World} (h : But S a b) (k : But T b c) (hT : ∀ k, k < a.heap.size → T k → S k) : But S a c :=
  ⟨k.os.trans h.os, k.tape.trans h.tape, k.output.trans h.output, Nat.le_trans h.size k.size, fun i hi hs => (k.block i (Nat.lt_of_lt_of_le hi h.size) (fun ht => hs (hT i hi ht))).trans (h.block i hi hs)⟩
theorem But.mono (h : But S w w') (hs : ∀ k, k < w.heap.size → S k → T k) : But T w w' := ⟨h.os, h.tape, h.output, h.size, fun i hi ht => h.block i hi (fun s => ht (hs i hi s))⟩
theorem But.of_below (h : Below w.heap.size w w') : But S w w' := ⟨h.os, h.tape, h.output, h.size, fun i hi _ => h.block i hi⟩
theorem But.of_grown {row : Option Nat} (h : w.grownBy w' row) : But (fun k => row = some k) w w' := ⟨h.os, h.tape, h.output, h.size, fun i hi hn => h.block i hi (fun e => hn e.symm)⟩
theorem But.below (h : But (fun _ => False) w w') : Below w.heap.size w w' := ⟨h.os, h.tape, h.output, h.size, fun i hi => h.block i hi (fun x => x)⟩
theorem But.drew (h : But S a w) : But S a w.drew := ⟨h.os, h.tape, h.output, h.size, h.block⟩
theorem But.drewN (h : But S a w) (n : Nat) : But S a (w.drewN n) := ⟨h.os, h.tape, h.output, h.size, h.block⟩
theorem But.alloc (h : But S a w) (o : Obj) : But S a (w.alloc o) :=
  h.trans (T := S) ⟨rfl, rfl, rfl, by simp, fun k hk _ => Below.heap_alloc _ _ _ hk⟩ (fun _ _ x => x)
theorem But.setCell (h : But S a w) {p : Addr} (hp : p.block < a.heap.size → S p.block) (u : Value) : But S a (w.setCell p u) :=
  h.trans (T := fun k => k = p.block) ⟨rfl, rfl, rfl, by simp [World.setCell], fun k _ hn => Below.heap_setCell _ _ _ _ hn⟩ (fun k hk e => by subst e; exact hp hk)
theorem But.heap {k : Nat} {o : Obj} (h : But S w w') (hk : w.heap[k]? = some o) (hs : ¬ S k) : w'.heap[k]? = some o :=
  (h.block k (Array.getElem?_eq_some_iff.1 hk).1 hs).trans hk
theorem But.cell {p : Addr} {u : Value} (h : But S w w') (hp : w.cell? p = some u) (hs : ¬ S p.block) : w'.cell? p = some u :=
  (World.cell?_of_block (h.block p.block (World.block_lt_of_cell? w p hp) hs)).trans hp
theorem below_drewN {B : Nat} (h : Below B a w) (n : Nat) : Below B a (w.drewN n) := ⟨h.os, h.tape, h.output, h.size, h.block⟩
theorem below_next {b c : World} (h : Below a.heap.size a b) (k : Below b.heap.size b c) : Below a.heap.size a c := h.trans (k.mono h.size)
end

theorem cell_new (w : World) (cs : Array Value) (t j : Nat) : (w.alloc (.cells cs t)).cell? ⟨w.heap.size, j, none⟩ = cs[j]? := by
  have h := heap_alloc_new w (.cells cs t)
  unfold World.cell?
  rw [h]
  rfl

theorem alloc1 (w : World) (o : Obj) : Below w.heap.size w (w.alloc o) := (Below.refl _ _).alloc (Nat.le_refl _) _

section
variable {P : Program} (w : World) {α : Type} {enc : α → List Value}

theorem nextslicecap_le (need old : Nat) (h : old < need) : Builtin.nextslicecap need old ≤ 4 * need + 4096 := by
  unfold Builtin.nextslicecap
  split
  · omega
  · split
    · omega
    · simp only [Builtin.growBy]
      repeat' split
      all_goals omega

theorem run_append_grow0 (t ty e : TypeId) (i : TypeInfo) (z : Value) (ht : P.underlying t = some (.slice e)) (hi : P.info? e = some i) (hz : i.zero = some z) (A : Option Addr)
    (a : Addr) (n c : Nat) (news : List Value) (hl : news.length = n * i.size) (hnews : ∀ j v, news[j]? = some v → w.cell? (a.add j) = some v)
    (h0 : 0 < n) (h63 : n ≤ 4611686018427387904) (h48 : Builtin.nextslicecap n 0 * i.bytes ≤ 281474976710656) :
    (Builtin.append_ #[t, t] ty #[.slice A 0 0, .slice (some a) n c]).run P w =
      .ok (.slice (some ⟨w.heap.size, 0, none⟩) n (grownCap w n 0 e)) (w.drew.alloc (.cells (news.toArray ++ Builtin.zeroCells z.cells (grownCap w n 0 e - n)) e)) := by
  cases A with
  | none => exact run_append_nil w t ty e i z ht hi hz a n c news hl hnews h0 (by omega) (by rw [nextslicecap_zero h0] at h48; exact h48)
  | some b =>
    have h := run_append_grow (P := P) w t ty e i z ht hi hz b 0 0 [] (by simp) (by simp) a n c news hl hnews (by omega) (by omega) (by simpa using h48)
    simpa using h

/-- append onto a row of the call's own: what comes is a row of the call's own, in the same block or in a new one; no other block has turned. -/
theorem run_append_my {size bytes : Nat} (hlen : ∀ x, (enc x).length = size) (h1 : ∀ x, ∀ u ∈ enc x, u.oneCell' = true) (t ty e : TypeId) (i : TypeInfo) (z : Value)
    (ht : P.underlying t = some (.slice e)) (hi : P.info? e = some i) (hz : i.zero = some z) (hsize : i.size = size) (hby : i.bytes = bytes) (hzs : z.cells.size = size) (hsz : 0 < size)
    {base B : Nat} {v x : Value} {xs ys : List α} (hown : Own enc size e w base v xs) (hx : Sl enc size w B x ys)
    (hbytes : (4 * (xs.length + ys.length) + 4096) * bytes ≤ 140737488355328) (h63 : xs.length + ys.length ≤ 4611686018427387904) (hbase : base ≤ w.heap.size) :
    ∃ v' w', (Builtin.append_ #[t, t] ty #[v, x]).run P w = .ok v' w' ∧ Own enc size e w' base v' (xs ++ ys) ∧ w.grownBy w' (blk v) ∧ (blk v' = blk v ∨ blk v' = some w.heap.size ∨ blk v' = none) := by
  subst hsize; subst hby
  obtain ⟨A, c, rfl, hr⟩ := hx
  have hfl := flatMap_len hlen
  rcases Nat.eq_zero_or_pos ys.length with h0 | h0
  · -- nothing is appended
    have : ys = [] := List.eq_nil_of_length_eq_zero h0
    subst this
    refine ⟨v, w, ?_, by simpa using hown, ⟨rfl, rfl, rfl, Nat.le_refl _, fun _ _ _ => rfl⟩, .inl rfl⟩
    rcases hown with ⟨rfl, A', rfl⟩ | ⟨b, cap, cur, rfl, _, _, hc, _⟩
    · cases A <;> cases A' <;> simp [Builtin.append_, run_underlying ht, sizeOf, typeInfo, hi, Builtin.lenOf, Builtin.firstCells, loadCells, loadCellsFrom, storeCells]
    · cases A <;> simp [Builtin.append_, run_underlying ht, sizeOf, typeInfo, hi, Builtin.lenOf, Builtin.firstCells, hc, storeCells, loadCells, loadCellsFrom]
  · obtain ⟨b', o', rfl, _, hc'⟩ := hr h0
    have hnews : ∀ j u, (ys.flatMap enc)[j]? = some u → w.cell? ((⟨b', o', none⟩ : Addr).add j) = some u := by
      intro j u hu
      have hj : j < ys.length * i.size := by rw [← hfl]; exact (List.getElem?_eq_some_iff.1 hu).1
      have hq : j / i.size < ys.length := (Nat.div_lt_iff_lt_mul hsz).2 hj
      have hy : ys[j / i.size]? = some ys[j / i.size] := List.getElem?_eq_getElem hq
      have hm : j % i.size < (enc ys[j / i.size]).length := by rw [hlen]; exact Nat.mod_lt _ hsz
      have hu2 : (enc ys[j / i.size])[j % i.size]? = some (enc ys[j / i.size])[j % i.size] := List.getElem?_eq_getElem hm
      have hg := flatMap_get hlen ys _ _ _ _ hy hu2
      have hd : j / i.size * i.size + j % i.size = j := by rw [Nat.mul_comm]; exact Nat.div_add_mod j i.size
      rw [hd, hu] at hg
      have := hc' _ _ hy _ _ hu2
      rw [← hg] at this
      have ha : (⟨b', o', none⟩ : Addr).add j = ⟨b', o' + j, none⟩ := by unfold Addr.add; split <;> simp_all
      rw [ha, ← this]
      congr 2
      omega
    have hbig : ∀ old, old < xs.length + ys.length → Builtin.nextslicecap (xs.length + ys.length) old * i.bytes ≤ 281474976710656 := by
      intro old ho
      have := Nat.mul_le_mul_right i.bytes (nextslicecap_le (xs.length + ys.length) old ho)
      omega
    have grown : ∀ (old : Nat) (olds : List Value), olds = xs.flatMap enc → 
        Own enc i.size e (w.drew.alloc (.cells (olds.toArray ++ (ys.flatMap enc).toArray ++ Builtin.zeroCells z.cells (grownCap w (xs.length + ys.length) old e - (xs.length + ys.length))) e)) base
          (.slice (some ⟨w.heap.size, 0, none⟩) (xs.length + ys.length) (grownCap w (xs.length + ys.length) old e)) (xs ++ ys) := by
      intro old olds holds
      subst holds
      have hge := grownCap_ge w (xs.length + ys.length) old e
      refine .inr ⟨w.heap.size, grownCap w (xs.length + ys.length) old e, _, by simp, hbase, by omega, by simpa using hge, grownCap_le_maxLen w _ old e (by simp only [maxLen]; omega), heap_alloc_new w.drew _, ?_, ?_⟩
      · simp only [Array.size_append, List.size_toArray, size_zeroCells, hzs, hfl, ← Nat.add_mul]
        exact Nat.mul_le_mul_right _ (by omega)
      · have hl : (xs ++ ys).length * i.size = (xs.flatMap enc ++ ys.flatMap enc).length := by
          rw [List.length_append, List.length_append, hfl, hfl, Nat.add_mul]
        simp only [Array.toList_append]
        rw [hl, List.take_left, List.flatMap_append]
    rcases hown with ⟨rfl, A', rfl⟩ | ⟨b, cap, cur, rfl, hb, hp, h2, h3, hh, hs, htk⟩
    · have hr := run_append_grow0 (P := P) w t ty e i z ht hi hz A' ⟨b', o', none⟩ ys.length c (ys.flatMap enc) (hfl ys) hnews h0 (by simp at h63; omega) (by simpa using hbig 0 (by simp; omega))
      have hg := grown 0 [] (by simp)
      refine ⟨_, _, hr, ?_, ⟨rfl, rfl, rfl, by simp, fun k hk _ => Below.heap_alloc w.drew _ k hk⟩, ?_⟩
      · simpa using hg
      · have hge := grownCap_ge w ys.length 0 e
        obtain ⟨m, hm⟩ : ∃ m, grownCap w ys.length 0 e = m + 1 := ⟨grownCap w ys.length 0 e - 1, by omega⟩
        rw [hm]
        exact .inr (.inl rfl)
    · have hin : xs.length * i.size ≤ cur.size := Nat.le_trans (Nat.mul_le_mul_right _ h2) hs
      by_cases hroom : xs.length + ys.length ≤ cap
      · have hfit : xs.length * i.size + (ys.flatMap enc).length ≤ cur.size := by
          rw [hfl, ← Nat.add_mul]; exact Nat.le_trans (Nat.mul_le_mul_right _ hroom) hs
        have hr := run_append_room (P := P) w t ty e i ht hi b xs.length cap cur hh ⟨b', o', none⟩ ys.length c (ys.flatMap enc) (hfl ys) hnews
          (fun u hu => by obtain ⟨y, _, hy⟩ := List.mem_flatMap.1 hu; exact h1 y u hy) hroom hfit
        refine ⟨_, _, hr, .inr ⟨b, cap, (cur.toList.take (xs.length * i.size) ++ ys.flatMap enc ++ cur.toList.drop (xs.length * i.size + (ys.flatMap enc).length)).toArray, by simp, hb, hp, by simpa using hroom, h3, ?_, ?_, ?_⟩, ?_, .inl (by obtain ⟨m, rfl⟩ : ∃ m, cap = m + 1 := ⟨cap - 1, by omega⟩; rfl)⟩
        · have hlt := (Array.getElem?_eq_some_iff.1 hh).1
          have hx' : w.heap[b] = .cells cur e (0, 0) := by simpa [Array.getElem?_eq_getElem hlt] using hh
          show (w.heap.modify b _)[b]? = _
          rw [Array.getElem?_eq_getElem (by simpa using hlt), Array.getElem_modify_self, hx']
        · simp only [List.size_toArray, List.length_append, List.length_take, List.length_drop, Array.length_toList]
          omega
        · rw [htk]
          have hl : (xs ++ ys).length * i.size = (xs.flatMap enc ++ ys.flatMap enc).length := by
            rw [List.length_append, List.length_append, hfl, hfl, Nat.add_mul]
          simp only []
          rw [hl, List.take_left, List.flatMap_append]
        · obtain ⟨m, rfl⟩ : ∃ m, cap = m + 1 := ⟨cap - 1, by omega⟩
          refine ⟨rfl, rfl, rfl, by simp [World.setRow], fun k hk hne => ?_⟩
          show (w.heap.modify b _)[k]? = _
          have hkb : b ≠ k := fun e => hne (by simp [blk, e])
          rw [Array.getElem?_modify, if_neg hkb]
      · have holds : ∀ j u, (xs.flatMap enc)[j]? = some u → w.cell? ((⟨b, 0, none⟩ : Addr).add j) = some u := by
          intro j u hu
          have ha : (⟨b, 0, none⟩ : Addr).add j = ⟨b, j, none⟩ := by unfold Addr.add; split <;> simp_all
          rw [ha, cell_of_row w b j cur e (0, 0) hh]
          rw [← htk, List.getElem?_take] at hu
          split at hu
          · simpa using hu
          · cases hu
        have hr := run_append_grow (P := P) w t ty e i z ht hi hz ⟨b, 0, none⟩ xs.length cap (xs.flatMap enc) (hfl xs) holds ⟨b', o', none⟩ ys.length c (ys.flatMap enc) (hfl ys) hnews (by omega) (by omega) (hbig cap (by omega))
        have hg := grown cap _ rfl
        refine ⟨_, _, hr, hg, ⟨rfl, rfl, rfl, by simp, fun k hk _ => Below.heap_alloc w.drew _ k hk⟩, ?_⟩
        have hge := grownCap_ge w (xs.length + ys.length) cap e
        obtain ⟨m, hm⟩ : ∃ m, grownCap w (xs.length + ys.length) cap e = m + 1 := ⟨grownCap w (xs.length + ys.length) cap e - 1, by omega⟩
        rw [hm]
        exact .inr (.inl rfl)
end
end Go.Proofs.Ytakldmbbmefnbaa
