/- What the statement leans on, part 2: texts joined into one. -/
import Derived.Test.YtakldmbbmefnbaaGreatWt1
import Derived.Laws.BytesString
import Derived.Defers
import Derived.Recover
import Derived.Test.YtakldmbbmefnbaaGreatProg
import Derived.ChangeKeysEq
import Derived.Laws.StructEq
/- walk: nearest, far. -/
namespace Go.Proofs.YtakldmbbmefnbaaGreat
open Go.RowKit
set_option maxRecDepth 100000
set_option maxHeartbeats 1000000

/-- The least number of some states. -/
def near (D : List Int) (l : List Int) (none_ : Int) : Int := l.foldl (fun m s => min m (D.getD s.toNat 0)) none_

theorem nearest_ok (vd vl : Value) (D l : List Int) (n : Nat) (none_ : Int) (w : World) (hd : Ints w w.heap.size vd D) (hl : Ints w w.heap.size vl l) (hn : D.length = n) (hin : ∀ s ∈ l, 0 ≤ s ∧ s < n) (hll : l.length ≤ 1000000) (hnn : n ≤ 1000) :
    Calls Tryz.prog 139 #[vd, vl, .int .i64 none_] w (fun r w' => r = .returned (.int .i64 (near D l none_)) ∧ w' = w) := by
  obtain ⟨A0, c0, rfl, hr⟩ := id hd
  obtain ⟨A1, c1, rfl, hr1⟩ := id hl
  clear hd hl
  go_enter Tryz.func139, Tryz.ntmps139
  go_wp2
  go_loop [11, 2] (fun i m => ∃ k : Nat, k ≤ l.length ∧ i = .int .i64 k ∧ m = .int .i64 (near D (l.take k) none_)) (fun i _ => l.length - (intOf i).toNat)
  case atStart => exact ⟨0, Nat.zero_le _, rfl, rfl⟩
  case round =>
    obtain ⟨k, hk, rfl, rfl⟩ := hrel
    by_cases hlt : k < l.length
    · obtain ⟨b1, o1, rfl, hb1, hc1⟩ := hr1 (by omega)
      have hcell := cell1 encI_eq hc1 hlt
      have hs := hin _ (List.getElem_mem hlt)
      obtain ⟨s, hsx⟩ : ∃ s : Nat, l[k] = s := ⟨l[k].toNat, by omega⟩
      rw [hsx] at hcell
      have hsn : s < D.length := by omega
      obtain ⟨b0, o0, rfl, hb0, hc0⟩ := hr (by omega)
      have hcell0 := cell1 encI_eq hc0 hsn
      have htk : near D (l.take (k + 1)) none_ = min (near D (l.take k) none_) D[s] := by
        unfold near
        rw [List.take_succ_eq_append_getElem hlt, List.foldl_append, hsx]
        simp [List.getD, hsn]
      have HT := Lib.hid htk
      have hi1 : (s : Int) < D.length := by omega
      have hi2 : (k : Int) < l.length := by omega
      generalize near D (l.take k) none_ = m at *
      generalize D[s] = x at *
      clear hr hr1 hc0 hc1 htk hin hs hsx
      go_wp2
      go_round
      case rel => exact ⟨k + 1, by omega, by go_num, by rw [HT.out]⟩
      case measure => simp [intOf]; omega
    · clear hr hr1
      have : k = l.length := by omega
      subst this
      rw [List.take_length]
      have hi2 : ¬ (l.length : Int) < l.length := by omega
      generalize hm : near D l none_ = m
      have HM := Lib.hid hm
      clear hm
      go_wp2
      go_ret
      exact ⟨by rw [HM.out]; rfl, rfl⟩

/-- From a state to a final with so many bytes. -/
inductive Far (a : A) : Int → Nat → Prop
  | fin {s : Int} (h : s ∈ a.final) : Far a s 0
  | free {e : E} {c : Nat} (h : e ∈ a.edges) (hf : e.free = true) (hr : Far a e.dst c) : Far a e.src c
  | byte {e : E} {c : Nat} (h : e ∈ a.edges) (hf : e.free = false) (hr : Far a e.dst c) : Far a e.src (c + 1)

def cost (e : E) : Int := if e.free then 0 else 1

/-- What the row of distances holds while it is made. -/
structure DInv (a : A) (n : Nat) (D : List Int) : Prop where
  len : D.length = n
  bound : ∀ (s : Nat) (h : s < D.length), 0 ≤ D[s] ∧ D[s] ≤ n
  sound : ∀ (s : Nat) (h : s < D.length), D[s] = n ∨ Far a s D[s].toNat
  fin : ∀ s : Nat, (s : Int) ∈ a.final → ∀ h : s < D.length, D[s] = 0

def sumD (D : List Int) : Nat := (D.map Int.toNat).sum
def rowSum (w : World) (b : Nat) : Nat := match w.heap[b]? with
  | some (.cells cs _ _) => (cs.toList.map (fun v => (intOf v).toNat)).sum
  | _ => 0
theorem rowSum_eq {w : World} {b : Nat} {D : List Int} {t : TypeId} {z : Nat × Nat} (h : w.heap[b]? = some (.cells (D.map (Value.int .i64)).toArray t z)) : rowSum w b = sumD D := by
  unfold rowSum sumD
  rw [h]
  simp only [List.map_map]
  rfl
theorem sumD_set (D : List Int) (i : Nat) (x : Int) (h : i < D.length) (h0 : 0 ≤ x) (hx : x < D[i]) : sumD (D.set i x) < sumD D := by
  unfold sumD
  induction D generalizing i with
  | nil => simp at h
  | cons y ys ih =>
    cases i with
    | zero =>
      simp only [List.getElem_cons_zero] at hx
      simp only [List.set_cons_zero, List.map_cons, List.sum_cons]
      omega
    | succ j =>
      simp only [List.getElem_cons_succ] at hx
      have := ih j (by simpa using h) hx
      simp only [List.set_cons_succ, List.map_cons, List.sum_cons]
      omega

theorem DInv.set {a : A} {n : Nat} {D : List Int} (h : DInv a n D) {e : E} (he : e ∈ a.edges) {s t : Nat} (hs : e.src = s) (ht : e.dst = t) (hsl : s < D.length) (htl : t < D.length) (hlt : D[t] + cost e < D[s]) : DInv a n (D.set s (D[t] + cost e)) := by
  have hc : 0 ≤ cost e := by unfold cost; split <;> omega
  have hb := h.bound t htl
  have hbs := h.bound s hsl
  have hft : Far a t D[t].toNat := by
    rcases h.sound t htl with h1 | h1
    · omega
    · exact h1
  have hfs : Far a s (D[t] + cost e).toNat := by
    rw [← hs]
    rw [← ht] at hft
    unfold cost
    by_cases hf : e.free = true
    · rw [if_pos hf, Int.add_zero]
      exact .free he hf hft
    · rw [if_neg hf]
      have : (D[t] + 1).toNat = D[t].toNat + 1 := by omega
      rw [this]
      exact .byte he (by simpa using hf) hft
  refine ⟨by simp [h.len], fun q hq => ?_, fun q hq => ?_, fun q hq hq2 => ?_⟩
  · by_cases e1 : s = q
    · subst e1; rw [List.getElem_set_self]; omega
    · rw [List.getElem_set_ne e1]; exact h.bound q _
  · by_cases e1 : s = q
    · subst e1; rw [List.getElem_set_self]; exact .inr hfs
    · rw [List.getElem_set_ne e1]; exact h.sound q _
  · by_cases e1 : s = q
    · subst e1
      have := h.fin s hq hsl
      omega
    · rw [List.getElem_set_ne e1]; exact h.fin q hq _

/-- The row of distances, when it is done. -/
structure Dist (a : A) (n : Nat) (D : List Int) : Prop extends DInv a n D where
  edge : ∀ e ∈ a.edges, ∀ (s t : Nat), e.src = s → e.dst = t → ∀ (hs : s < D.length) (ht : t < D.length), D[s] ≤ D[t] + cost e

theorem Dist.least {a : A} {n : Nat} {D : List Int} (h : Dist a n D) (hb : ∀ e ∈ a.edges, (0 ≤ e.src ∧ e.src < n) ∧ 0 ≤ e.dst ∧ e.dst < n) {s : Int} {c : Nat} (hf : Far a s c) : ∀ (q : Nat), s = q → ∀ hq : q < D.length, D[q] ≤ c := by
  induction hf with
  | fin hs =>
    rintro q rfl hq
    rw [h.fin q hs hq]
    omega
  | @free e c he hfr hr ih =>
    rintro q hsq hq
    obtain ⟨_, h3, h4⟩ := hb e he
    have hl := h.len
    have h5 := ih e.dst.toNat (by omega) (by omega)
    have h6 := h.edge e he q e.dst.toNat hsq (by omega) hq (by omega)
    have : cost e = 0 := by simp [cost, hfr]
    omega
  | @byte e c he hfr hr ih =>
    rintro q hsq hq
    obtain ⟨_, h3, h4⟩ := hb e he
    have hl := h.len
    have h5 := ih e.dst.toNat (by omega) (by omega)
    have h6 := h.edge e he q e.dst.toNat hsq (by omega) hq (by omega)
    have : cost e = 1 := by simp [cost, hfr]
    omega
end Go.Proofs.YtakldmbbmefnbaaGreat
/- walk: far. -/
namespace Go.Proofs.YtakldmbbmefnbaaGreat
open Go.RowKit
set_option maxRecDepth 100000
set_option maxHeartbeats 2000000

/-- A row of numbers in a block of its own. -/
def Row (w : World) (b : Nat) (D : List Int) : Prop := w.heap[b]? = some (.cells (D.map (Value.int .i64)).toArray 3 (0, 0))
theorem Row.cell {w : World} {b : Nat} {D : List Int} (h : Row w b D) (q : Nat) (hq : q < D.length) : w.cell? ⟨b, q, none⟩ = some (.int .i64 D[q]) := by
  rw [cell_at h]; simp [hq]
theorem Row.free {w : World} {b : Nat} {D : List Int} (h : Row w b D) (q : Nat) : w.frozen? ⟨b, q, none⟩ = false := free_at h q
theorem Row.set {w : World} {b : Nat} {D : List Int} (h : Row w b D) (q : Nat) (x : Int) : Row (w.setCell ⟨b, q, none⟩ (.int .i64 x)) b (D.set q x) := by
  unfold Row
  rw [heap_set h]
  simp [List.map_set]
theorem Row.below {w w' : World} {b : Nat} {D : List Int} (h : Row w b D) (hb : Below w.heap.size w w') : Row w' b D := (hb.block b (Array.getElem?_eq_some_iff.1 h).1).trans h
theorem Row.start {w : World} {b n : Nat} (h : w.heap[b]? = some (.cells (madeCells #[.int .i64 0] n) 3 (0, 0))) : Row w b (List.replicate n 0) := by
  unfold Row
  rw [h]
  have : (madeCells #[Value.int .i64 0] n) = (List.replicate n (.int .i64 0)).toArray := by rw [← toList_madeCells_one]
  rw [this]
  simp
theorem Row.own {w : World} {b base : Nat} {D : List Int} (h : Row w b D) (hb : base ≤ b) (hl : D.length ≤ 1000000) : Own encI 1 3 w base (.slice (some ⟨b, 0, none⟩) D.length D.length) D := by
  rcases Nat.eq_zero_or_pos D.length with h0 | h0
  · have : D = [] := List.eq_nil_of_length_eq_zero h0
    subst this
    exact .inl ⟨rfl, _, rfl⟩
  · refine .inr ⟨b, D.length, _, rfl, hb, h0, Nat.le_refl _, by simp [maxLen]; omega, h, by simp, ?_⟩
    rw [encI_flat]
    simp only [Nat.mul_one]
    exact List.take_of_length_le (by simp)

/-- Does an edge lead on as the distances say? -/
def EdgeOk (D : List Int) (e : E) : Prop := ∀ (s t : Nat), e.src = s → e.dst = t → ∀ (hs : s < D.length) (ht : t < D.length), D[s] ≤ D[t] + cost e

theorem far_ok (b : Nat) (a : A) (vs vf ve : Value) (w : World) (hk : Wk w b a vs vf ve) (ha : Fit a) :
    Calls Tryz.prog 138 #[pw b] w (fun r w' => ∃ v' D, r = .returned v' ∧ Own encI 1 3 w' w.heap.size v' D ∧ Below w.heap.size w w' ∧ Dist a a.states.toNat D) := by
  obtain ⟨n, hn⟩ : ∃ n : Nat, a.states = n := ⟨a.states.toNat, by have := ha.ok; simp [A.ok] at this; omega⟩
  obtain ⟨i0, hi0, hz0, hs0, hby0⟩ := info_parts info_int
  have hn2 : a.states.toNat = n := by omega
  rw [hn2]
  have hnn : n ≤ 1000 := by have := ha.n; omega
  have hB1 : i0.bytes * n ≤ 281474976710656 := by rw [hby0]; omega
  have hN : n ≤ 4611686018427387904 := by omega
  have hq0 := hk.c0
  have hq2 := hk.c2
  have hq3 := hk.c3
  rw [hn] at hq0
  have hlt := hk.lt
  obtain ⟨Af, cf, rfl, hrf⟩ := id hk.fa.f
  obtain ⟨Ae, ce, rfl, hre⟩ := id hk.fa.e
  have hfin : ∀ s ∈ a.final, 0 ≤ s ∧ s < n := by
    intro s hs
    have := List.all_eq_true.1 ha.final s hs
    simp [inB, hn] at this
    omega
  have heb : ∀ e ∈ a.edges, (0 ≤ e.src ∧ e.src < n) ∧ 0 ≤ e.dst ∧ e.dst < n := by
    intro e he
    have h := ha.ok
    simp only [A.ok, Bool.and_eq_true, List.all_eq_true] at h
    have := h.2 e he
    simp [mayE, inB, hn] at this
    omega
  have hfl := ha.f
  have hel := ha.e
  obtain ⟨W1, hW1⟩ : ∃ W1, w.alloc (.cells (madeCells #[Value.int .i64 0] n) 3) = W1 := ⟨_, rfl⟩
  have d1 : Below w.heap.size w W1 := hW1 ▸ alloc1 w _
  have r1 : Row W1 w.heap.size (List.replicate n 0) := Row.start (by rw [← hW1]; exact heap_alloc_new w _)
  have HF := Lib.hid (And.intro hfin (And.intro heb (And.intro hrf hre)))
  clear hk hrf hre hfin heb
  go_enter Tryz.func138, Tryz.ntmps138
  go_wp2_with (at_make; refine wpList_make_z _ rfl _ _ 22 rfl _ i0 _ 1 Tryz.underlying22 hi0 hz0 hs0 n rfl rfl hB1 hN ?_)
  go_loopw [19] (fun i wr => ∃ (k : Nat) (D : List Int), k ≤ n ∧ i = .int .i64 k ∧ D.length = n ∧ Row wr w.heap.size D ∧ Below w.heap.size w wr ∧ ∀ q (h : q < D.length), q < k → D[q] = n) (fun i _ => n - (intOf i).toNat)
  case atStart => exact ⟨0, _, Nat.zero_le _, rfl, by simp, r1, d1, fun q _ h => absurd h (Nat.not_lt_zero q)⟩
  case round =>
    obtain ⟨k, D, hkn, rfl, hDl, hR, hB, hD⟩ := hrel
    by_cases hlt2 : k < n
    · have hc0 := (hB.cell (p := ⟨b, 0, none⟩) hlt).trans hq0
      have hcd := hR.cell k (by omega)
      have hfd := hR.free k
      have hi1 : (k : Int) < n := by omega
      have HD := Lib.hid hD
      clear hD
      generalize D[k] = old at *
      go_wp2
      go_roundw
      case rel =>
        refine ⟨k + 1, D.set k n, by omega, by go_num, by simpa using hDl, hR.set k n, hB.setCell (Nat.le_refl _) _, fun q hq h => ?_⟩
        by_cases e : k = q
        · subst e; rw [List.getElem_set_self]
        · rw [List.getElem_set_ne e]; exact HD.out q _ (by omega)
      case measure => simp [intOf]; omega
    · have hkk : k = n := by omega
      subst hkk
      have hi1 : ¬ (k : Int) < k := by omega
      have hall : ∀ q (h : q < D.length), D[q] = (k : Int) := fun q h => hD q h (by omega)
      have hc2 := (hB.cell (p := ⟨b, 2, none⟩) hlt).trans hq2
      have HD := Lib.hid hall
      clear hD hall
      go_wp2
      go_loopw [37] (fun i wr => ∃ (j : Nat) (D : List Int), j ≤ a.final.length ∧ i = .int .i64 j ∧ D.length = k ∧ Row wr w.heap.size D ∧ Below w.heap.size w wr ∧ (∀ q (h : q < D.length), D[q] = k ∨ (D[q] = 0 ∧ (q : Int) ∈ a.final)) ∧ ∀ i' (h' : i' < a.final.length), i' < j → ∀ q : Nat, a.final[i'] = q → ∀ h : q < D.length, D[q] = 0) (fun i _ => a.final.length - (intOf i).toNat)
      case atStart => exact ⟨0, D, Nat.zero_le _, rfl, hDl, hR, hB, fun q h => .inl (HD.out q h), fun i' _ h => absurd h (Nat.not_lt_zero i')⟩
      case round =>
        clear hDl hR hB HD hc2
        clear D
        obtain ⟨j, D, hjl, rfl, hDl, hR, hB, hD1, hD2⟩ := hrel
        by_cases hlt3 : j < a.final.length
        · obtain ⟨hfin, _, hrf, _⟩ := HF.out
          obtain ⟨fb, fo, rfl, hfb, hfc⟩ := hrf (by omega)
          have hcell := (hB.cell (p := ⟨fb, fo + j, none⟩) hfb).trans (cell1 encI_eq hfc hlt3)
          have hs := hfin _ (List.getElem_mem hlt3)
          obtain ⟨s, hsx⟩ : ∃ s : Nat, a.final[j] = s := ⟨a.final[j].toNat, by omega⟩
          have hsm : (s : Int) ∈ a.final := hsx ▸ List.getElem_mem hlt3
          rw [hsx] at hcell
          have hsn : s < D.length := by omega
          have hcd := hR.cell s hsn
          have hfd := hR.free s
          have hi2 : (j : Int) < a.final.length := by omega
          have hi3 : (s : Int) < k := by omega
          have HD := Lib.hid (And.intro hD1 (And.intro hD2 (And.intro hsx hsm)))
          clear hD1 hD2 hfin hrf hfc hs hsx hsm
          generalize D[s] = old at *
          go_wp2
          go_roundw
          case rel =>
            obtain ⟨hD1, hD2, hsx, hsm⟩ := HD.out
            refine ⟨j + 1, D.set s 0, by omega, by go_num, by simpa using hDl, hR.set s 0, hB.setCell (Nat.le_refl _) _, fun q hq => ?_, fun i' h1 h2 q h3 hq => ?_⟩
            · by_cases e : s = q
              · subst e; rw [List.getElem_set_self]; exact .inr ⟨rfl, hsm⟩
              · rw [List.getElem_set_ne e]; exact hD1 q _
            · by_cases e : s = q
              · subst e; rw [List.getElem_set_self]
              · rw [List.getElem_set_ne e]
                refine hD2 i' h1 ?_ q h3 _
                by_cases e2 : i' = j
                · subst e2
                  rw [hsx] at h3
                  omega
                · omega
          case measure => simp [intOf]; omega
        · have hjj : j = a.final.length := by omega
          subst hjj
          have hi2 : ¬ (a.final.length : Int) < a.final.length := by omega
          have hDI : DInv a k D := by
            refine ⟨hDl, fun q hq => ?_, fun q hq => ?_, fun q hq hq2 => ?_⟩
            · rcases hD1 q hq with h | h <;> omega
            · rcases hD1 q hq with h | h
              · exact .inl h
              · refine .inr ?_
                rw [h.1]
                exact .fin h.2
            · obtain ⟨i', hi', he⟩ := List.getElem_of_mem hq
              exact hD2 i' hi' hi' q he hq2
          clear hD1 hD2
          go_wp2
          go_loopw [7] (fun x wr => ∃ (D : List Int) (c : Nat), x = .int .i64 c ∧ c ≤ 1000000 ∧ Row wr w.heap.size D ∧ Below w.heap.size w wr ∧ DInv a k D ∧ (c = 0 → ∀ e ∈ a.edges, EdgeOk D e)) (fun x wr => 2 * rowSum wr w.heap.size + (if 0 < intOf x then 1 else 0))
          case atStart => exact ⟨D, 1, rfl, by decide, hR, hB, hDI, fun h => absurd h (by decide)⟩
          case round =>
            clear hDl hR hB hDI
            clear D
            obtain ⟨D, c, rfl, hc1, hR, hB, hDI, hE⟩ := hrel
            by_cases hc0 : c = 0
            · subst hc0
              have hDist : Dist a k D := ⟨hDI, fun e he => hE rfl e he⟩
              have HD := Lib.hid hDist
              have hlD := hDI.len
              clear hDI hE hDist
              go_wp2
              go_ret
              refine ⟨_, D, rfl, ?_, hB, HD.out⟩
              have h9 := hR.own (base := w.heap.size) (Nat.le_refl _) (by omega)
              rwa [hlD] at h9
            · have hi3 : (c : Int) > 0 := by omega
              have hc3 := (hB.cell (p := ⟨b, 3, none⟩) hlt).trans hq3
              have hsum := rowSum_eq hR
              have HE := Lib.hid hsum
              clear hE hsum
              go_wp2
              go_loopw [53, 7] (fun i x wz => ∃ (m : Nat) (D' : List Int) (c' : Nat), m ≤ a.edges.length ∧ i = .int .i64 m ∧ x = .int .i64 c' ∧ c' ≤ m ∧ Row wz w.heap.size D' ∧ Below w.heap.size w wz ∧ DInv a k D' ∧ sumD D' + c' ≤ sumD D ∧ (c' = 0 → ∀ j (h : j < a.edges.length), j < m → EdgeOk D' a.edges[j])) (fun i _ _ => a.edges.length - (intOf i).toNat)
              case atStart => exact ⟨0, D, 0, Nat.zero_le _, rfl, rfl, Nat.le_refl _, hR, hB, hDI, Nat.le_refl _, fun _ j _ h => absurd h (Nat.not_lt_zero j)⟩
              case round =>
                clear hR hB hDI hc3
                obtain ⟨m, D', c', hml, rfl, rfl, hcm, hR, hB, hDI, hsum, hE⟩ := hrel
                by_cases hlt4 : m < a.edges.length
                · obtain ⟨_, heb, _, hre⟩ := HF.out
                  obtain ⟨eb, eo, rfl, hebk, hec⟩ := hre (by omega)
                  obtain ⟨hcell0, hcell1, hcell2, hcell3, hcell4, hcell5, hcell6⟩ := cell7 hec hlt4
                  replace hcell0 := (hB.cell (p := ⟨eb, eo + m * 7, none⟩) hebk).trans hcell0
                  replace hcell1 := (hB.cell (p := ⟨eb, eo + m * 7 + 1, none⟩) hebk).trans hcell1
                  replace hcell2 := (hB.cell (p := ⟨eb, eo + m * 7 + 2, none⟩) hebk).trans hcell2
                  replace hcell3 := (hB.cell (p := ⟨eb, eo + m * 7 + 3, none⟩) hebk).trans hcell3
                  replace hcell4 := (hB.cell (p := ⟨eb, eo + m * 7 + 4, none⟩) hebk).trans hcell4
                  replace hcell5 := (hB.cell (p := ⟨eb, eo + m * 7 + 5, none⟩) hebk).trans hcell5
                  replace hcell6 := (hB.cell (p := ⟨eb, eo + m * 7 + 6, none⟩) hebk).trans hcell6
                  have hmem : a.edges[m] ∈ a.edges := List.getElem_mem hlt4
                  have hbd := heb _ hmem
                  obtain ⟨ed, hed⟩ : ∃ ed, a.edges[m] = ed := ⟨_, rfl⟩
                  rw [hed] at hcell0 hcell1 hcell2 hcell3 hcell4 hcell5 hcell6 hmem hbd
                  have HED := Lib.hid hed
                  obtain ⟨s, hs⟩ : ∃ s : Nat, ed.src = s := ⟨ed.src.toNat, by omega⟩
                  obtain ⟨t, ht⟩ : ∃ t : Nat, ed.dst = t := ⟨ed.dst.toNat, by omega⟩
                  have hlD := hDI.len
                  have hsl : s < D'.length := by omega
                  have htl : t < D'.length := by omega
                  rw [hs] at hcell0
                  rw [ht] at hcell1
                  obtain ⟨Wz, hWz⟩ : ∃ Wz, wr.alloc (.cells #[.int .i64 s, .int .i64 t, .bool ed.free, .int .u64 ed.set.w0.toNat, .int .u64 ed.set.w1.toNat, .int .u64 ed.set.w2.toNat, .int .u64 ed.set.w3.toNat] 73) = Wz := ⟨_, rfl⟩
                  have hBW : Below wr.heap.size wr Wz := hWz ▸ alloc1 wr _
                  have hn1 : ∀ j, Wz.cell? ⟨wr.heap.size, j, none⟩ = _ := fun j => hWz ▸ cell_new wr _ _ j
                  have e0 := hn1 0; have e1 := hn1 1; have e2 := hn1 2
                  simp only [List.getElem?_toArray, List.getElem?_cons_zero, List.getElem?_cons_succ] at e0 e1 e2
                  have hRz := hR.below hBW
                  have hcs := hRz.cell s hsl
                  have hct := hRz.cell t htl
                  have hfs := hRz.free s
                  have hbs := hDI.bound s hsl
                  have hbt := hDI.bound t htl
                  have hset := fun h => hDI.set hmem hs ht hsl htl h
                  have hsm := fun (x : Int) h0 h => sumD_set D' s x hsl h0 h
                  have hok : D'[s] ≤ D'[t] + cost ed → EdgeOk D' ed := by
                    intro h s' t' h1 h2 h3 h4
                    have e1 : s' = s := by omega
                    have e2 : t' = t := by omega
                    subst e1; subst e2
                    exact h
                  have hi5 : (m : Int) < a.edges.length := by omega
                  have hi6 : (s : Int) < k := by omega
                  have hi7 : (t : Int) < k := by omega
                  have hBz := hB.trans (hBW.mono hB.size)
                  have hco : cost ed = if ed.free then 0 else 1 := rfl
                  obtain ⟨D2, hD2⟩ : ∃ D2, D'.set s (D'[t] + cost ed) = D2 := ⟨_, rfl⟩
                  have hRs := hRz.set s (D'[t] + cost ed)
                  rw [hD2] at hRs hset
                  have hD2l : sumD (D'.set s (D'[t] + cost ed)) = sumD D2 := by rw [hD2]
                  generalize hdt : D'[t] = dt at *
                  generalize hds : D'[s] = ds at *
                  obtain ⟨fr, hfr⟩ : ∃ fr, ed.free = fr := ⟨_, rfl⟩
                  rw [hfr] at hcell2 hWz e2 hco
                  have HX := Lib.hid (And.intro hE (And.intro hsum (And.intro hcm (And.intro hDI (And.intro hset (And.intro hsm (And.intro hok (And.intro hD2l hR))))))))
                  clear hE hsum hDI hset hsm hok heb hre hec hmem hed hn1 hRz hlD hsl htl hD2 hD2l hdt hds hs ht hbd hR hfr hebk hB
                  cases fr with
                  | true =>
                    rw [if_pos rfl] at hco
                    rw [hco, Int.add_zero] at hRs
                    by_cases hlt5 : dt < ds
                    · go_wp2
                      go_roundw
                      case rel =>
                        obtain ⟨hE, hsum, hcm, hDI, hset, hsm, hok, hD2l, hR⟩ := HX.out
                        have h9 := hsm (dt + cost ed) (by omega) (by omega)
                        exact ⟨m + 1, D2, c' + 1, by omega, by go_num, by go_num, by omega, hRs, hBz.setCell (Nat.le_refl _) _, hset (by omega), by omega, fun h => absurd h (by omega)⟩
                      case measure => simp [intOf]; omega
                    · go_wp2
                      go_roundw
                      case rel =>
                        obtain ⟨hE, hsum, hcm, hDI, hset, hsm, hok, hD2l, hR⟩ := HX.out
                        refine ⟨m + 1, D', c', by omega, by go_num, rfl, by omega, hR.below hBW, hBz, hDI, hsum, fun h j hj hjm => ?_⟩
                        by_cases e : j = m
                        · subst e
                          rw [HED.out]
                          exact hok (by omega)
                        · exact hE h j hj (by omega)
                      case measure => simp [intOf]; omega
                  | false =>
                    rw [if_neg (by decide)] at hco
                    rw [hco] at hRs
                    by_cases hlt5 : dt + 1 < ds
                    · go_wp2
                      go_roundw
                      case rel =>
                        obtain ⟨hE, hsum, hcm, hDI, hset, hsm, hok, hD2l, hR⟩ := HX.out
                        have h9 := hsm (dt + cost ed) (by omega) (by omega)
                        exact ⟨m + 1, D2, c' + 1, by omega, by go_num, by go_num, by omega, hRs, hBz.setCell (Nat.le_refl _) _, hset (by omega), by omega, fun h => absurd h (by omega)⟩
                      case measure => simp [intOf]; omega
                    · go_wp2
                      go_roundw
                      case rel =>
                        obtain ⟨hE, hsum, hcm, hDI, hset, hsm, hok, hD2l, hR⟩ := HX.out
                        refine ⟨m + 1, D', c', by omega, by go_num, rfl, by omega, hR.below hBW, hBz, hDI, hsum, fun h j hj hjm => ?_⟩
                        by_cases e : j = m
                        · subst e
                          rw [HED.out]
                          exact hok (by omega)
                        · exact hE h j hj (by omega)
                      case measure => simp [intOf]; omega
                · have hmm : m = a.edges.length := by omega
                  subst hmm
                  have hi5 : ¬ (a.edges.length : Int) < a.edges.length := by omega
                  have hnew := rowSum_eq hR
                  have HX := Lib.hid (And.intro hE (And.intro hsum (And.intro hcm (And.intro hDI (And.intro hR (And.intro hB hnew))))))
                  clear hE hsum hDI hR hB hnew
                  go_wp2
                  go_roundw
                  case rel =>
                    obtain ⟨hE, hsum, hcm, hDI, hR, hB, hnew⟩ := HX.out
                    refine ⟨D', c', rfl, by omega, hR, hB, hDI, fun h e he => ?_⟩
                    obtain ⟨j, hj, rfl⟩ := List.getElem_of_mem he
                    exact hE h j hj hj
                  case measure =>
                    obtain ⟨hE, hsum, hcm, hDI, hR, hB, hnew⟩ := HX.out
                    have hold := HE.out
                    have hcp : 0 < c := by omega
                    simp only [intOf, hold, hnew]
                    by_cases hz : c' = 0
                    · subst hz
                      simp [hcp]
                      omega
                    · have hcp' : 0 < c' := by omega
                      simp [hcp, hcp']
                      omega
end Go.Proofs.YtakldmbbmefnbaaGreat
/- What a run along a word is; no program in sight. -/
namespace Go.Proofs.YtakldmbbmefnbaaGreat

/-- From a state along a word to a state. -/
inductive Comes (a : A) : Int → List UInt8 → Int → Prop
  | nil (s : Int) : Comes a s [] s
  | free {e : E} {w : List UInt8} {t : Int} (h : e ∈ a.edges) (hf : e.free = true) (hr : Comes a e.dst w t) : Comes a e.src w t
  | byte {e : E} {b : UInt8} {w : List UInt8} {t : Int} (h : e ∈ a.edges) (hf : e.free = false) (hb : e.set.has b.toNat = true) (hr : Comes a e.dst w t) : Comes a e.src (b :: w) t

variable {a : A}

theorem Comes.append {s t u : Int} {v w : List UInt8} (h : Comes a s v t) (k : Comes a t w u) : Comes a s (v ++ w) u := by
  induction h with
  | nil => exact k
  | free h hf _ ih => exact .free h hf (ih k)
  | byte h hf hb _ ih => exact .byte h hf hb (ih k)
theorem Comes.head {s t : Int} {b : UInt8} {w : List UInt8} (h : Comes a s (b :: w) t) : ∃ r, Comes a s [b] r ∧ Comes a r w t := by
  generalize hv : b :: w = v at h
  induction h with
  | nil => cases hv
  | free h hf _ ih =>
    obtain ⟨r, h1, h2⟩ := ih hv
    exact ⟨r, .free h hf h1, h2⟩
  | byte h hf hb hr _ =>
    cases hv
    exact ⟨_, .byte h hf hb (.nil _), hr⟩

theorem Comes.one {r t : Int} {v : List UInt8} {b : UInt8} (h : Comes a r v t) : v = [b] → ∃ e ∈ a.edges, e.free = false ∧ e.set.has b.toNat = true ∧ Comes a r [] e.src ∧ Comes a e.dst [] t := by
  induction h with
  | nil => intro h; cases h
  | free he hf _ ih =>
    intro hv
    obtain ⟨e, h1, h2, h3, h4, h5⟩ := ih hv
    exact ⟨e, h1, h2, h3, .free he hf h4, h5⟩
  | byte he hf hb hr _ =>
    intro hv
    cases hv
    exact ⟨_, he, hf, hb, .nil _, hr⟩

theorem bv_zero (x : BitVec 64) (h : ∀ j, j < 64 → x.getLsbD j = false) : x = 0#64 := by
  apply BitVec.eq_of_getLsbD_eq
  intro i hi
  rw [h i hi]
  simp
theorem has_none (s : BSet) (h : ∀ b, b < 256 → s.has b = false) : s = ⟨0#64, 0#64, 0#64, 0#64⟩ := by
  have hw : ∀ i, i < 4 → s.word i = 0#64 := by
    intro i hi
    refine bv_zero _ fun j hj => ?_
    have := h (i * 64 + j) (by omega)
    unfold BSet.has at this
    rwa [show (i * 64 + j) / 64 = i by omega, show (i * 64 + j) % 64 = j by omega] at this
  obtain ⟨w0, w1, w2, w3⟩ := s
  have h0 := hw 0 (by decide)
  have h1 := hw 1 (by decide)
  have h2 := hw 2 (by decide)
  have h3 := hw 3 (by decide)
  simp only [BSet.word] at h0 h1 h2 h3
  rw [h0, h1, h2, h3]
theorem edge_in (ha : Fit a) {e : E} (he : e ∈ a.edges) : (0 ≤ e.src ∧ e.src < a.states) ∧ (0 ≤ e.dst ∧ e.dst < a.states) ∧ (e.free = false → ∃ b : UInt8, e.set.has b.toNat = true) := by
  have h := ha.ok
  simp only [A.ok, Bool.and_eq_true, List.all_eq_true] at h
  have h1 := h.2 e he
  simp [mayE, inB] at h1
  refine ⟨by omega, by omega, fun hf => ?_⟩
  have hc : ¬ e.set.count = 0 := by
    have := h1.2
    rw [hf] at this
    simp at this
    omega
  exact Classical.byContradiction fun hno => hc ((count_zero e.set).2 (by
    exact has_none e.set fun b hb => by
      have := fun h => hno ⟨UInt8.ofNat b, h⟩
      have e1 : (UInt8.ofNat b).toNat = b := by simp; omega
      rw [e1] at this
      simpa using this))

def Inb (a : A) (l : List Int) : Prop := ∀ s ∈ l, 0 ≤ s ∧ s < a.states

theorem goes_in (ha : Fit a) {p : E → Bool} {l : List Int} (hl : Inb a l) {s : Int} (h : Goes (a.pairs false p) l s) : 0 ≤ s ∧ s < a.states := by
  cases h with
  | start h => exact hl _ h
  | step _ hp =>
    obtain ⟨e, he, h2⟩ := List.mem_map.1 hp
    simp [turned] at h2
    have := edge_in ha (List.mem_filter.1 he).1
    omega
theorem mem_clo (ha : Fit a) {l : List Int} (hl : Inb a l) {s : Int} : s ∈ a.clo l ↔ ∃ r ∈ l, Comes a r [] s := by
  have h0 : 0 ≤ a.states := by have := ha.ok; simp [A.ok] at this; omega
  unfold A.clo
  rw [mem_cl]
  constructor
  · intro h9
    replace h9 := h9.2
    induction h9 with
    | start h => exact ⟨_, h, .nil _⟩
    | @step r s _ hp ih =>
      obtain ⟨q, hq, hc⟩ := ih
      obtain ⟨e, he, h2⟩ := List.mem_map.1 hp
      simp [turned] at h2
      obtain ⟨rfl, rfl⟩ := h2
      have hm := List.mem_filter.1 he
      refine ⟨q, hq, ?_⟩
      have := hc.append (.free hm.1 (by simpa using hm.2) (.nil e.dst))
      simpa using this
  · rintro ⟨r, hr, hc⟩
    have hg : Goes (a.pairs false (fun e => e.free)) l s := by
      have h1 : Goes (a.pairs false (fun e => e.free)) l r := .start hr
      generalize hv : ([] : List UInt8) = v at hc
      clear hr
      induction hc with
      | nil => exact h1
      | @free e w t he hf _ ih =>
        refine ih (.step h1 ?_) hv
        exact List.mem_map.2 ⟨e, List.mem_filter.2 ⟨he, hf⟩, by simp [turned]⟩
      | byte => cases hv
    have := goes_in ha hl hg
    exact ⟨by omega, hg⟩
theorem inb_clo (ha : Fit a) (l : List Int) : Inb a (a.clo l) := by
  intro s hs
  have := List.all_eq_true.1 (A.clo_in ha l) s hs
  simp [inB] at this
  omega
theorem mem_step (ha : Fit a) {l : List Int} (hl : Inb a l) {b : UInt8} {t : Int} : t ∈ a.step l b.toNat ↔ ∃ r ∈ l, Comes a r [b] t := by
  unfold A.step
  have hin : Inb a ((a.edges.filter (leads (a.clo l) b.toNat)).map (fun e => e.dst)) := by
    intro s hs
    obtain ⟨e, he, rfl⟩ := List.mem_map.1 hs
    have := edge_in ha (List.mem_filter.1 he).1
    omega
  rw [mem_clo ha hin]
  constructor
  · rintro ⟨r, hr, hc⟩
    obtain ⟨e, he, rfl⟩ := List.mem_map.1 hr
    obtain ⟨h1, h2⟩ := List.mem_filter.1 he
    simp only [leads, Bool.and_eq_true, Bool.not_eq_true', List.any_eq_true, beq_iff_eq] at h2
    obtain ⟨⟨h3, h4⟩, q, h5, h6⟩ := h2
    obtain ⟨r, hr, hc2⟩ := (mem_clo ha hl).1 h5
    refine ⟨r, hr, ?_⟩
    have hq : q = e.src := h6.symm
    subst hq
    have := hc2.append (.byte h1 h3 h4 hc)
    simpa using this
  · rintro ⟨r, hr, hc⟩
    obtain ⟨e, h1, h2, h3, h4, h5⟩ := hc.one rfl
    refine ⟨e.dst, List.mem_map.2 ⟨e, List.mem_filter.2 ⟨h1, ?_⟩, rfl⟩, h5⟩
    simp only [leads, Bool.and_eq_true, Bool.not_eq_true', List.any_eq_true, beq_iff_eq]
    exact ⟨⟨h2, h3⟩, e.src, (mem_clo ha hl).2 ⟨r, hr, h4⟩, rfl⟩
theorem inb_step (ha : Fit a) (l : List Int) (b : Nat) : Inb a (a.step l b) := inb_clo ha _
theorem inb_start (ha : Fit a) : Inb a a.start := by
  intro s hs
  have := List.all_eq_true.1 ha.start s hs
  simp [inB] at this
  omega
theorem inb_final (ha : Fit a) : Inb a a.final := by
  intro s hs
  have := List.all_eq_true.1 ha.final s hs
  simp [inB] at this
  omega

theorem mem_run (ha : Fit a) (w : List UInt8) : ∀ {l : List Int}, Inb a l → (∀ r t, r ∈ l → Comes a r [] t → t ∈ l) → ∀ {t : Int}, t ∈ w.foldl (fun l b => a.step l b.toNat) l ↔ ∃ r ∈ l, Comes a r w t := by
  induction w with
  | nil =>
    intro l _ hc t
    exact ⟨fun h => ⟨t, h, .nil t⟩, fun ⟨r, hr, h⟩ => hc r t hr h⟩
  | cons b w ih =>
    intro l hl hc t
    rw [List.foldl_cons, ih (inb_step ha l _) (fun r t hr h => by
      obtain ⟨q, hq, h2⟩ := (mem_step ha hl).1 hr
      refine (mem_step ha hl).2 ⟨q, hq, ?_⟩
      have := h2.append h
      simpa using this)]
    constructor
    · rintro ⟨r, hr, h⟩
      obtain ⟨q, hq, h2⟩ := (mem_step ha hl).1 hr
      exact ⟨q, hq, h2.append h⟩
    · rintro ⟨q, hq, h⟩
      obtain ⟨r, h1, h2⟩ := h.head
      exact ⟨r, (mem_step ha hl).2 ⟨q, hq, h1⟩, h2⟩
theorem clo_closed (ha : Fit a) {l : List Int} (hl : Inb a l) (r t : Int) (hr : r ∈ a.clo l) (h : Comes a r [] t) : t ∈ a.clo l := by
  obtain ⟨q, hq, h2⟩ := (mem_clo ha hl).1 hr
  exact (mem_clo ha hl).2 ⟨q, hq, by simpa using h2.append h⟩
theorem mem_after (ha : Fit a) {w : List UInt8} {t : Int} : t ∈ a.after w ↔ ∃ r ∈ a.start, Comes a r w t := by
  unfold A.after
  rw [mem_run ha w (inb_clo ha _) (clo_closed ha (inb_start ha))]
  constructor
  · rintro ⟨r, hr, h⟩
    obtain ⟨q, hq, h2⟩ := (mem_clo ha (inb_start ha)).1 hr
    exact ⟨q, hq, by simpa using h2.append h⟩
  · rintro ⟨r, hr, h⟩
    exact ⟨r, (mem_clo ha (inb_start ha)).2 ⟨r, hr, .nil r⟩, h⟩
/-- Is a word taken? -/
def A.takes (a : A) (w : List UInt8) : Prop := ∃ r ∈ a.start, ∃ t ∈ a.final, Comes a r w t
theorem ends_after (ha : Fit a) (w : List UInt8) : a.ends (a.after w) = true ↔ a.takes w := by
  unfold A.ends A.takes
  rw [List.any_eq_true]
  simp only [List.any_eq_true, beq_iff_eq]
  constructor
  · rintro ⟨s, hs, f, hf, rfl⟩
    obtain ⟨r, hr, h⟩ := (mem_after ha).1 hs
    exact ⟨r, hr, _, hf, h⟩
  · rintro ⟨r, hr, t, ht, h⟩
    exact ⟨t, (mem_after ha).2 ⟨r, hr, h⟩, t, ht, rfl⟩

theorem far_comes (ha : Fit a) {s : Int} {c : Nat} : Far a s c ↔ ∃ w : List UInt8, w.length = c ∧ ∃ t ∈ a.final, Comes a s w t := by
  constructor
  · intro h
    induction h with
    | fin h => exact ⟨[], rfl, _, h, .nil _⟩
    | free h hf _ ih =>
      obtain ⟨w, hw, t, ht, hc⟩ := ih
      exact ⟨w, hw, t, ht, .free h hf hc⟩
    | byte h hf _ ih =>
      obtain ⟨w, hw, t, ht, hc⟩ := ih
      obtain ⟨b, hb⟩ := (edge_in ha h).2.2 hf
      exact ⟨b :: w, by simp [hw], t, ht, .byte h hf hb hc⟩
  · rintro ⟨w, rfl, t, ht, hc⟩
    induction hc with
    | nil => exact .fin ht
    | free h hf _ ih => exact .free h hf (ih ht)
    | byte h hf hb _ ih => exact .byte h hf (ih ht)
end Go.Proofs.YtakldmbbmefnbaaGreat
/- The first word, plain law. -/
namespace Go.Proofs.YtakldmbbmefnbaaGreat
variable {a : A}

theorem near_le_init (D : List Int) : ∀ (l : List Int) (x : Int), near D l x ≤ x
  | [], x => Int.le_refl x
  | s :: l, x => by
    have := near_le_init D l (min x (D.getD s.toNat 0))
    unfold near at this ⊢
    rw [List.foldl_cons]
    omega
theorem near_le (D : List Int) : ∀ (l : List Int) (x : Int) {s : Int}, s ∈ l → near D l x ≤ D.getD s.toNat 0
  | [], _, _, h => by cases h
  | r :: l, x, s, h => by
    have h1 := near_le_init D l (min x (D.getD r.toNat 0))
    unfold near at h1 ⊢
    rw [List.foldl_cons]
    rcases List.mem_cons.1 h with rfl | h
    · omega
    · exact near_le D l _ h
theorem near_at (D : List Int) : ∀ (l : List Int) (x : Int), near D l x = x ∨ ∃ s ∈ l, near D l x = D.getD s.toNat 0
  | [], x => .inl rfl
  | r :: l, x => by
    rcases near_at D l (min x (D.getD r.toNat 0)) with h | ⟨s, hs, h⟩
    · unfold near at h ⊢
      rw [List.foldl_cons, h]
      by_cases hx : x ≤ D.getD r.toNat 0
      · exact .inl (by omega)
      · exact .inr ⟨r, by simp, by omega⟩
    · unfold near at h ⊢
      rw [List.foldl_cons]
      exact .inr ⟨s, List.mem_cons_of_mem _ hs, h⟩

theorem getD_at {D : List Int} {s : Nat} (h : s < D.length) : D.getD s 0 = D[s] := by simp [List.getD, h]

section
variable {n : Nat} {D : List Int}

theorem Dist.fars (h : Dist a n D) (ha : Fit a) (hn : a.states = n) {s : Int} {c : Nat} (hf : Far a s c) : ∀ (q : Nat), s = q → ∀ hq : q < D.length, D[q] ≤ c :=
  h.least (fun e he => by have := edge_in ha he; omega) hf

theorem far_in (ha : Fit a) {s : Int} {c : Nat} (hf : Far a s c) : 0 ≤ s ∧ s < a.states := by
  cases hf with
  | fin h => exact inb_final ha _ h
  | free h _ _ => exact (edge_in ha h).1
  | byte h _ _ => exact (edge_in ha h).1

theorem attains (h : Dist a n D) (ha : Fit a) (hn : a.states = n) {s : Int} {c : Nat} (hf : Far a s c) : ∀ (q : Nat), s = q → ∀ hq : q < D.length, ∀ v : Nat, (v : Int) ≤ D[q] → ∃ t : Nat, ∃ ht : t < D.length, D[t] = v := by
  have hl := h.len
  induction hf with
  | fin hs =>
    rintro q rfl hq v hv
    have := h.fin q hs hq
    exact ⟨q, hq, by omega⟩
  | @free e c he hfr hr ih =>
    rintro q hsq hq v hv
    have hd := (edge_in ha he).2.1
    have h6 := h.edge e he q e.dst.toNat hsq (by omega) hq (by omega)
    have : cost e = 0 := by simp [cost, hfr]
    exact ih e.dst.toNat (by omega) (by omega) v (by omega)
  | @byte e c he hfr hr ih =>
    rintro q hsq hq v hv
    have hd := (edge_in ha he).2.1
    have h6 := h.edge e he q e.dst.toNat hsq (by omega) hq (by omega)
    have : cost e = 1 := by simp [cost, hfr]
    by_cases hv2 : (v : Int) = D[q]
    · exact ⟨q, hq, hv2.symm⟩
    · exact ih e.dst.toNat (by omega) (by omega) v (by omega)

theorem far_lt (h : Dist a n D) (ha : Fit a) (hn : a.states = n) {s : Int} {c : Nat} (hf : Far a s c) (q : Nat) (hsq : s = q) (hq : q < D.length) : D[q] < n := by
  refine Classical.byContradiction fun hno => ?_
  have hat := attains h ha hn hf q hsq hq
  have hb := h.bound q hq
  have hch : ∀ v : Nat, ∃ t : Nat, v ≤ n → t < D.length ∧ D.getD t 0 = v := by
    intro v
    by_cases hv : v ≤ n
    · obtain ⟨t, ht, he⟩ := hat v (by omega)
      exact ⟨t, fun _ => ⟨ht, by rw [getD_at ht]; exact he⟩⟩
    · exact ⟨0, fun h => absurd h hv⟩
  obtain ⟨f, hf⟩ := Classical.axiomOfChoice hch
  have hnd : ((List.range (n + 1)).map f).Nodup := by
    unfold List.Nodup
    rw [List.pairwise_map]
    refine List.Pairwise.imp_of_mem ?_ (List.nodup_range (n := n + 1))
    intro x y hx hy hxy he
    have h1 := (hf x (by have := List.mem_range.1 hx; omega)).2
    have h2 := (hf y (by have := List.mem_range.1 hy; omega)).2
    rw [he, h2] at h1
    exact hxy (by omega)
  have := nodup_range n _ hnd (fun i hi => by
    obtain ⟨v, hv, rfl⟩ := List.mem_map.1 hi
    have := (hf v (by have := List.mem_range.1 hv; omega)).1
    have := h.len
    omega)
  simp at this
  omega

/-- What comes of a word's rest bounds how near a final is. -/
theorem near_comes (h : Dist a n D) (ha : Fit a) (hn : a.states = n) {l : List Int} {r t : Int} {w : List UInt8} (hr : r ∈ l) (ht : t ∈ a.final) (hc : Comes a r w t) (x : Int) : near D l x ≤ w.length ∧ near D l x < n := by
  have hf := (far_comes ha).2 ⟨w, rfl, t, ht, hc⟩
  have hin := far_in ha hf
  have hl := h.len
  have h1 := near_le D l x hr
  have h2 := h.fars ha hn hf r.toNat (by omega) (by omega)
  have h3 := far_lt h ha hn hf r.toNat (by omega) (by omega)
  rw [getD_at (by omega)] at h1
  omega

theorem near_pos (h : Dist a n D) {l : List Int} (hl : Inb a l) (hn : a.states = n) : 0 ≤ near D l n := by
  rcases near_at D l n with h1 | ⟨s, hs, h1⟩
  · omega
  · have := hl s hs
    have hlen := h.len
    rw [h1, getD_at (by omega)]
    exact (h.bound s.toNat (by omega)).1

/-- How the first word is come by. -/
structure FInv (a : A) (D : List Int) (n L : Nat) (word : List UInt8) (left : Nat) : Prop where
  near_ : near D (a.after word) n = left
  sum : word.length + left = L
  lt : L < n
  pref : ∀ w, a.takes w → L ≤ w.length ∧ (w.length = L → ∀ j (h : j < word.length) (h' : j < w.length), w.take j = word.take j → word[j].toNat ≤ w[j].toNat)

/-- The first word. -/
structure IsFirst (a : A) (n : Nat) (word : List UInt8) : Prop where
  takes : a.takes word
  short : word.length < n
  least : ∀ w, a.takes w → word.length ≤ w.length ∧ (w.length = word.length → ∀ j (h : j < word.length) (h' : j < w.length), w.take j = word.take j → word[j].toNat ≤ w[j].toNat)

theorem after_snoc (word : List UInt8) (b : UInt8) : a.after (word ++ [b]) = a.step (a.after word) b.toNat := by
  unfold A.after
  rw [List.foldl_append]
  rfl
theorem after_inb (ha : Fit a) (word : List UInt8) : Inb a (a.after word) := by
  intro s hs
  have := List.all_eq_true.1 (A.after_in ha word).1 s hs
  simp [inB] at this
  omega
theorem after_closed (ha : Fit a) (word : List UInt8) (r t : Int) (hr : r ∈ a.after word) (h : Comes a r [] t) : t ∈ a.after word := by
  obtain ⟨q, hq, h2⟩ := (mem_after ha).1 hr
  exact (mem_after ha).2 ⟨q, hq, by simpa using h2.append h⟩

theorem FInv.start (h : Dist a n D) (ha : Fit a) (hn : a.states = n) {L : Nat} (hL : near D (a.clo a.start) n = L) (hlt : L < n) : FInv a D n L [] L := by
  refine ⟨hL, by simp, hlt, fun w hw => ⟨?_, fun _ j hj => absurd hj (Nat.not_lt_zero j)⟩⟩
  obtain ⟨r, hr, t, ht, hc⟩ := hw
  have := (near_comes h ha hn ((mem_clo ha (inb_start ha)).2 ⟨r, hr, .nil r⟩) ht hc n).1
  omega
theorem no_word (h : Dist a n D) (ha : Fit a) (hn : a.states = n) (hL : ¬ near D (a.clo a.start) n < n) (w : List UInt8) : ¬ a.takes w := by
  rintro ⟨r, hr, t, ht, hc⟩
  exact hL (near_comes h ha hn ((mem_clo ha (inb_start ha)).2 ⟨r, hr, .nil r⟩) ht hc n).2

theorem near_step (h : Dist a n D) (ha : Fit a) (hn : a.states = n) {l : List Int} (hl : Inb a l) {left : Nat} (hnr : near D l n = (left : Int) + 1) (hlt : (left : Int) + 1 < n) (b : UInt8) : left ≤ near D (a.step l b.toNat) n := by
  rcases near_at D (a.step l b.toNat) n with h1 | ⟨t, ht, h1⟩
  · omega
  · have hti := inb_step ha l b.toNat t ht
    have hlen := h.len
    rw [h1, getD_at (by omega)]
    obtain ⟨r, hr, hc⟩ := (mem_step ha hl).1 ht
    rcases h.sound t.toNat (by omega) with h2 | h2
    · omega
    · have h3 := (h.bound t.toNat (by omega)).1
      have h2' : Far a t D[t.toNat].toNat := by
        have : ((t.toNat : Nat) : Int) = t := by omega
        rwa [this] at h2
      obtain ⟨w, hw, f, hf, hc2⟩ := (far_comes ha).1 h2'
      have := (near_comes h ha hn hr hf (hc.append hc2) n).1
      simp at this
      omega
theorem FInv.exists_ (h : Dist a n D) (ha : Fit a) (hn : a.states = n) {L left : Nat} {word : List UInt8} (hI : FInv a D n L word (left + 1)) : ∃ b : UInt8, near D (a.step (a.after word) b.toNat) n = left := by
  have hnr := hI.near_
  have hsum := hI.sum
  have hlt := hI.lt
  have hin := after_inb ha word
  have hlen := h.len
  rcases near_at D (a.after word) n with h1 | ⟨s, hs, h1⟩
  · omega
  · have hsi := hin s hs
    rw [h1, getD_at (by omega)] at hnr
    rcases h.sound s.toNat (by omega) with h2 | h2
    · omega
    · have h2' : Far a s D[s.toNat].toNat := by
        have : ((s.toNat : Nat) : Int) = s := by omega
        rwa [this] at h2
      obtain ⟨w, hw, f, hf, hc⟩ := (far_comes ha).1 h2'
      cases w with
      | nil => simp at hw; omega
      | cons b w =>
        refine ⟨b, ?_⟩
        obtain ⟨r, hc1, hc2⟩ := hc.head
        have hr : r ∈ a.step (a.after word) b.toNat := (mem_step ha hin).2 ⟨s, hs, hc1⟩
        have h5 := (near_comes h ha hn hr hf hc2 n).1
        have h6 := near_step (left := left) h ha hn hin (by have := hI.near_; omega) (by omega) b
        simp at hw
        omega
theorem FInv.next (h : Dist a n D) (ha : Fit a) (hn : a.states = n) {L left : Nat} {word : List UInt8} (hI : FInv a D n L word (left + 1)) (b : UInt8) (hb : near D (a.step (a.after word) b.toNat) n = left) (hmin : ∀ c : UInt8, c.toNat < b.toNat → near D (a.step (a.after word) c.toNat) n ≠ left) : FInv a D n L (word ++ [b]) left := by
  have hsum := hI.sum
  have hlt := hI.lt
  refine ⟨by rw [after_snoc]; exact hb, by simp; omega, hI.lt, fun w hw => ⟨(hI.pref w hw).1, fun hwl j hj hj' htk => ?_⟩⟩
  by_cases hjw : j < word.length
  · rw [List.getElem_append_left hjw]
    refine (hI.pref w hw).2 hwl j hjw hj' ?_
    rw [htk, List.take_append_of_le_length (by omega)]
  · have hje : j = word.length := by simp at hj; omega
    subst hje
    rw [List.getElem_append_right (Nat.le_refl _)]
    simp only [Nat.sub_self, List.getElem_cons_zero]
    rw [List.take_append_of_le_length (Nat.le_refl _), List.take_length] at htk
    refine Classical.byContradiction fun hno => hmin w[word.length] (by omega) ?_
    obtain ⟨r, hr, t, ht, hc⟩ := hw
    have hsplit : w = word ++ w[word.length] :: w.drop (word.length + 1) := by
      conv => lhs; rw [← List.take_append_drop word.length w, htk, List.drop_eq_getElem_cons hj']
    generalize w[word.length] = c at *
    generalize hd : w.drop (word.length + 1) = rest at *
    have hlr : rest.length = left := by rw [← hd, List.length_drop]; omega
    rw [hsplit] at hc
    have key : ∀ (v : List UInt8) (r : Int), Comes a r (v ++ c :: rest) t → ∃ q, Comes a r v q ∧ Comes a q (c :: rest) t := by
      intro v
      induction v with
      | nil => intro r h; exact ⟨r, .nil r, h⟩
      | cons x v ih =>
        intro r h
        obtain ⟨p, h1, h2⟩ := Comes.head h
        obtain ⟨q, h3, h4⟩ := ih p h2
        exact ⟨q, by simpa using h1.append h3, h4⟩
    obtain ⟨q, h1, h2⟩ := key word r hc
    obtain ⟨p, h3, h4⟩ := h2.head
    have hq : q ∈ a.after word := (mem_after ha).2 ⟨r, hr, h1⟩
    have hp : p ∈ a.step (a.after word) c.toNat := (mem_step ha (after_inb ha word)).2 ⟨q, hq, h3⟩
    have h5 := (near_comes h ha hn hp ht h4 n).1
    have h6 := near_step (left := left) h ha hn (after_inb ha word) (by have := hI.near_; omega) (by omega) c
    omega
theorem FInv.done (h : Dist a n D) (ha : Fit a) (hn : a.states = n) {L : Nat} {word : List UInt8} (hI : FInv a D n L word 0) : IsFirst a n word := by
  have hsum := hI.sum
  have hlt := hI.lt
  have hlen := h.len
  have hL : word.length = L := by omega
  refine ⟨?_, by omega, fun w hw => ?_⟩
  · rcases near_at D (a.after word) n with h1 | ⟨s, hs, h1⟩
    · have := hI.near_; omega
    · have hsi := after_inb ha word s hs
      have hnr := hI.near_
      rw [h1, getD_at (by omega)] at hnr
      rcases h.sound s.toNat (by omega) with h2 | h2
      · omega
      · have h2' : Far a s D[s.toNat].toNat := by
          have : ((s.toNat : Nat) : Int) = s := by omega
          rwa [this] at h2
        obtain ⟨w, hw, f, hf, hc⟩ := (far_comes ha).1 h2'
        have hw0 : w = [] := List.eq_nil_of_length_eq_zero (by omega)
        subst hw0
        obtain ⟨r, hr, hc2⟩ := (mem_after ha).1 hs
        exact ⟨r, hr, f, hf, by simpa using hc2.append hc⟩
  · have h9 := hI.pref w hw
    exact ⟨by omega, fun h => h9.2 (by omega)⟩
end
end Go.Proofs.YtakldmbbmefnbaaGreat
/- Rows of bytes. -/
namespace Go.Proofs.YtakldmbbmefnbaaGreat
open Go.RowKit Go.Sort Go.Proofs

def encU (b : UInt8) : List Value := [.int .u8 b.toNat]
theorem encU_len (b : UInt8) : (encU b).length = 1 := rfl
theorem encU_one (b : UInt8) : ∀ u ∈ encU b, u.oneCell' = true := by simp [encU, Value.oneCell']
theorem info_u8 : (Tryz.prog.info? 5).map (fun i => (i.zero, i.size, i.bytes)) = some (some (.int .u8 0), 1, 1) := by kernel_rfl

theorem Own.at_U {e : TypeId} {w : World} {base : Nat} {v : Value} {xs : List UInt8} (h : Own encU 1 e w base v xs) (h0 : 0 < xs.length) : ∃ b c, v = .slice (some ⟨b, 0, none⟩) xs.length c ∧ blk v = some b ∧ ∀ k (h : k < xs.length), w.cell? ⟨b, k, none⟩ = some (.int .u8 xs[k].toNat) := by
  rcases h with ⟨rfl, _⟩ | ⟨b, cap, cur, rfl, hb, hp, h1, h2, hg, hs, ht⟩
  · exact absurd h0 (Nat.lt_irrefl 0)
  · refine ⟨b, cap, rfl, by obtain ⟨m, rfl⟩ : ∃ m, cap = m + 1 := ⟨cap - 1, by omega⟩; rfl, fun k hk => ?_⟩
    rw [cell_at hg k, ← Array.getElem?_toList]
    have h3 := flatMap_get encU_len xs k xs[k] 0 (.int .u8 xs[k].toNat) (List.getElem?_eq_getElem hk) rfl
    rw [← ht, Nat.mul_one, Nat.add_zero, List.getElem?_take_of_lt (by omega), Nat.mul_one] at h3
    exact h3

/-- 'string(b)'. -/
theorem conv_back {w : World} {base : Nat} {v : Value} {xs : List UInt8} (h : Own encU 1 5 w base v xs) : Sem.run Tryz.prog (convert 39 9 v) w = .ok (encStr xs) w := by
  rcases Nat.eq_zero_or_pos xs.length with h0 | h0
  · have : xs = [] := List.eq_nil_of_length_eq_zero h0
    subst this
    obtain ⟨A, c, rfl, _⟩ := h.form
    cases A with
    | some a => exact run_convert_bytes_back w _ _ _ a c [] Tryz.underlying39 Tryz.underlying5 Tryz.underlying9 (fun j hj => absurd hj (Nat.not_lt_zero j))
    | none =>
      rw [List.length_nil, run_convert_bytes_string w 39 9 5 none 0 c Tryz.underlying39 Tryz.underlying5 Tryz.underlying9]
      simp [Conv.bytesToString]
      rfl
  · obtain ⟨b, c, rfl, _, hc⟩ := h.at_U h0
    exact run_convert_bytes_back w _ _ _ ⟨b, 0, none⟩ c xs Tryz.underlying39 Tryz.underlying5 Tryz.underlying9 (fun j hj => by
      have := hc j hj
      have ha : (⟨b, 0, none⟩ : Addr).add j = ⟨b, j, none⟩ := by unfold Addr.add; split <;> simp_all
      rw [ha]; exact this)
end Go.Proofs.YtakldmbbmefnbaaGreat
/- walk: first. -/
namespace Go.Proofs.YtakldmbbmefnbaaGreat
open Go.RowKit Go.Sort Go.Proofs
set_option maxRecDepth 100000
set_option maxHeartbeats 300000

/-- How the search for the first word ends. -/
def FirstEnd (a : A) (r : Ending) : Prop := (∃ word : List UInt8, r = .returned (encStr word) ∧ IsFirst a a.states.toNat word) ∨ (r = .panicked (errPanic 4) ∧ ∀ w, ¬ a.takes w)

theorem own_block {α : Type} {enc : α → List Value} {size : Nat} {e : TypeId} {w : World} {base : Nat} {v : Value} {xs : List α} (h : Own enc size e w base v xs) : ∀ k, blk v = some k → ∃ cs z, w.heap[k]? = some (.cells cs e z) := by
  intro k hk
  rcases h with ⟨rfl, A, rfl⟩ | ⟨b, cap, cur, rfl, hb, hp, _, _, hg, _⟩
  · cases A <;> simp [blk] at hk
  · obtain ⟨m, rfl⟩ : ∃ m, cap = m + 1 := ⟨cap - 1, by omega⟩
    simp [blk] at hk
    subst hk
    exact ⟨_, _, hg⟩
/-- A row of other things stays as it is where this one grows. -/
theorem Own.apart {α β : Type} {enc : α → List Value} {enc2 : β → List Value} {size size2 : Nat} {e e2 : TypeId} {w w' : World} {base base2 : Nat} {v v2 : Value} {xs : List α} {ys : List β} (h : Own enc size e w base v xs) (hg : w.grownBy w' (blk v2)) (h2 : Own enc2 size2 e2 w base2 v2 ys) (hne : e ≠ e2) : Own enc size e w' base v xs :=
  h.kept hg (fun k hk e => by
    obtain ⟨cs, z, hc⟩ := own_block h2 k e
    exact own_ne h hc hne hk)

theorem need_any (c : Bool) (e : Int) (w : World) (Q : Ending → World → Prop) (h1 : c = true → Q (.returned (.tuple #[])) w) (h2 : c = false → Q (.panicked (errPanic e)) w) : Calls Tryz.prog 124 #[.bool c, .int .i64 e] w Q := by
  cases c with
  | true => exact (need_ok e w).mono (fun r w' h => by obtain ⟨rfl, rfl⟩ := h; exact h1 rfl)
  | false => exact (need_no e w).mono (fun r w' h => by obtain ⟨rfl, rfl⟩ := h; exact h2 rfl)

theorem first_ok (b : Nat) (a : A) (vs vf ve : Value) (w : World) (hk : Wk w b a vs vf ve) (ha : Fit a) :
    Calls Tryz.prog 87 #[pw b] w (fun r w' => FirstEnd a r ∧ Below w.heap.size w w') := by
  obtain ⟨n, hn⟩ : ∃ n : Nat, a.states = n := ⟨a.states.toNat, by have := ha.ok; simp [A.ok] at this; omega⟩
  have hn2 : a.states.toNat = n := by omega
  have hnn : n ≤ 1000 := by have := ha.n; omega
  obtain ⟨i0, hi, hz0, hz1, hz2⟩ := info_parts info_u8
  have hfar := far_ok b a vs vf ve w hk ha
  rw [hn2] at hfar
  have hq0 := hk.c0
  have hq1 := hk.c1
  rw [hn] at hq0
  have hlt := hk.lt
  have hcl := fun W (h : Wk W b a vs vf ve) => closure_ok b a vs vf ve vs a.start W h ha h.fa.s ha.start ha.s
  obtain ⟨A0, c0, rfl, _⟩ := id hk.fa.s
  have hst0 : a.after [] = a.clo a.start := rfl
  have hal := A.after_in ha []
  have hin0 := after_inb ha []
  rw [hst0] at hal hin0
  generalize hst : a.clo a.start = st at *
  go_enter Tryz.func87, Tryz.ntmps87
  go_wp2_with first
    | (go_at_call 138; refine hfar.mono ?_; rintro e w1 ⟨v1, D, rfl, ho1, hb1, hD⟩; obtain ⟨A1, c1, rfl, hle1⟩ := ho1.form; have hlD := hD.len; rw [hlD] at ho1; have hq0a := (hb1.cell (p := ⟨b, 0, none⟩) hlt).trans hq0; have hq1a := (hb1.cell (p := ⟨b, 1, none⟩) hlt).trans hq1)
    | (go_at_call 66; refine (hcl _ (hk.below hb1)).mono ?_; rintro e w2 ⟨v2, rfl, ho2, hb2⟩; obtain ⟨A2, c2, rfl, hle2⟩ := ho2.form; have hq0b := (hb2.cell (p := ⟨b, 0, none⟩) (World.block_lt_of_cell? _ _ hq0a)).trans hq0a; have hdw2 := (ho1.below hb2).sl encI_len)
    | (go_at_call 139; have hne := nearest_ok _ _ D st n n _ hdw2 (ho2.sl encI_len) hlD (fun s hs => by have := hin0 s hs; omega) (by omega) hnn; obtain ⟨L, hL⟩ : ∃ L, near D st n = L := ⟨_, rfl⟩; rw [hL] at hne; have HL := Lib.hid hL; clear hL; refine hne.mono ?_; rintro e w3 ⟨rfl, rfl⟩)
    | (go_at_call 124; refine need_any _ _ _ _ ?_ ?_)
  · intro hlt9
    have hpos : 0 ≤ L := by rw [← HL.out]; exact near_pos hD hin0 hn
    obtain ⟨Ln, rfl⟩ : ∃ Ln : Nat, L = Ln := ⟨L.toNat, by omega⟩
    have hdl : decide ((Ln : Int) < n) = true := by simpa using hlt9
    rw [hdl]
    clear hdl
    have hI0 := FInv.start hD ha hn (L := Ln) (by rw [hst]; exact HL.out) (by omega)
    have hdw : Below w.heap.size w w3 := below_next hb1 hb2
    have ho1w := ho1.below hb2
    have ho2w := ho2.lower hb1.size
    have ho2w : Own encI 1 3 w3 w.heap.size (.slice A2 st.length c2) (a.after []) := by rw [hst0]; exact ho2w
    have HZ := Lib.hid (And.intro hI0 (And.intro hD (And.intro hlD hdw)))
    have HST := Lib.hid hst
    clear hI0 hD hlD hdw hfar hcl hal hin0 hst0 ho1 ho2 hdw2 hne hq0a hq1a hq1 hpos hst
    go_wp2
    go_loopw [5, 6, 4] (fun x y z wr => ∃ (left : Nat) (word : List UInt8), x = .int .i64 left ∧ Own encU 1 5 wr w.heap.size y word ∧ Own encI 1 3 wr w.heap.size z (a.after word) ∧ Own encI 1 3 wr w.heap.size (.slice A1 n c1) D ∧ Below w.heap.size w wr ∧ FInv a D n Ln word left) (fun x _ _ _ => (intOf x).toNat)
    case atStart => exact ⟨Ln, [], rfl, Own.nil none, ho2w, ho1w, HZ.out.2.2.2, HZ.out.1⟩
    case round =>
      clear ho1w ho2w
      obtain ⟨left, word, rfl, hw, hz, hd, hB, hI⟩ := hrel
      obtain ⟨A5, c5, rfl, hle5⟩ := hw.form
      obtain ⟨A6, c6, rfl, hle6⟩ := hz.form
      cases left with
      | zero =>
        have hcb := conv_back hw
        have hfst := hI.done HZ.out.2.1 ha hn
        have HX := Lib.hid hfst
        clear hI hfst
        go_wp2
        go_ret
        exact ⟨.inl ⟨word, rfl, by rw [hn2]; exact HX.out⟩, hB⟩
      | succ left =>
        obtain ⟨hDD, hlD⟩ := (And.intro HZ.out.2.1 HZ.out.2.2.1 : Dist a n D ∧ D.length = n)
        have hcin := after_inb ha word
        have hcal := A.after_in ha word
        have hex := hI.exists_ hDD ha hn
        have hnx := fun (b : UInt8) => hI.next hDD ha hn b
        have hwl : word.length + (left + 1) = Ln := hI.sum
        have hLn : Ln < n := hI.lt
        generalize hcur : a.after word = cur at *
        have hi9 : ((left : Int) + 1) > 0 := by omega
        have hcast : ((left + 1 : Nat) : Int) = (left : Int) + 1 := by omega
        rw [hcast]
        clear hcast
        have HI := Lib.hid (And.intro hex (And.intro hnx (And.intro hDD (And.intro hcin hcur))))
        have hin : cur.all (inB a.states) = true := hcal.1
        have hclen : cur.length ≤ 1000000 := by omega
        have hst9 := fun (m : Nat) (hm : m < 256) (W : World) (A7 : Option Addr) (n7 c7 : Nat) (h : Wk W b a (.slice A0 a.start.length c0) vf ve) (h2 : Ints W W.heap.size (.slice A6 cur.length c6) cur) => step_ok b a _ vf ve _ cur m W h ha h2 hin hclen hm
        have HS9 := Lib.hid hst9
        clear hex hnx hDD hcin hcal hcur hin hst9 hI
        go_wp2
        go_loopw [41, 6, 4] (fun i y z wr => ∃ m : Nat, m ≤ 256 ∧ i = .int .i64 m ∧ y = .slice A5 word.length c5 ∧ z = .slice A6 cur.length c6 ∧ Own encU 1 5 wr w.heap.size (.slice A5 word.length c5) word ∧ Own encI 1 3 wr w.heap.size (.slice A6 cur.length c6) cur ∧ Own encI 1 3 wr w.heap.size (.slice A1 n c1) D ∧ Below w.heap.size w wr ∧ ∀ c : UInt8, c.toNat < m → near D (a.step cur c.toNat) n ≠ left) (fun i _ _ _ => 256 - (intOf i).toNat)
        case atStart => exact ⟨0, by decide, rfl, rfl, rfl, hw, hz, hd, hB, fun c h => absurd h (Nat.not_lt_zero _)⟩
        case round =>
          clear hw hz hd hB
          obtain ⟨m, hm, rfl, rfl, rfl, hw, hz, hd, hB, hno⟩ := hrel
          by_cases hm9 : m < 256
          · obtain ⟨bb, rfl⟩ : ∃ bb : UInt8, bb.toNat = m := ⟨UInt8.ofNat m, by simp; omega⟩
            have hst := HS9.out bb.toNat hm9 wr A6 cur.length c6 (hk.below hB) (hz.sl encI_len)
            have hinb := inb_step ha cur bb.toNat
            have hil := Nat.le_trans (A.clo_len ha ((a.edges.filter (leads (a.clo cur) bb.toNat)).map (fun e => e.dst))) (show 1000 ≤ 1000000 by decide)
            have hstep : a.clo ((a.edges.filter (leads (a.clo cur) bb.toNat)).map (fun e => e.dst)) = a.step cur bb.toNat := rfl
            rw [hstep] at hil
            clear hstep
            obtain ⟨N, hN⟩ : ∃ N, near D (a.step cur bb.toNat) n = N := ⟨_, rfl⟩
            have hne := fun (W : World) (v v2 : Value) (h : Ints W W.heap.size v D) (h2 : Ints W W.heap.size v2 (a.step cur bb.toNat)) => nearest_ok v v2 D (a.step cur bb.toNat) n n W h h2 hlD (fun s hs => by have := hinb s hs; omega) hil hnn
            rw [hN] at hne
            obtain ⟨nxt, hnxt⟩ : ∃ nxt, a.step cur bb.toNat = nxt := ⟨_, rfl⟩
            rw [hnxt] at hst hne hN
            have HN := Lib.hid (And.intro hN hnxt)
            have hi10 : (bb.toNat : Int) < 256 := by omega
            have hwm : IntKind.u8.wrap (bb.toNat : Int) = bb.toNat := by show (bb.toNat : Int) % 256 = bb.toNat; omega
            have hq0z := (hB.cell (p := ⟨b, 0, none⟩) hlt).trans hq0
            have hNX := Lib.hid hno
            clear hN hnxt hno hinb hil
            have hbyt : (4 * (word.length + 1) + 4096) * 1 ≤ 140737488355328 := by omega
            have hwl2 : word.length + 1 ≤ 4611686018427387904 := by omega
            by_cases hNl : N = left
            · subst hNl
              go_wp2_with first
                | (go_at_call 76; refine hst.mono ?_; rintro e w5 ⟨v5, rfl, ho5, hb5⟩; obtain ⟨A7, c7, rfl, hle7⟩ := ho5.form; have hq0y := (hb5.cell (p := ⟨b, 0, none⟩) (World.block_lt_of_cell? _ _ hq0z)).trans hq0z; have hne5 := hne w5 _ _ ((hd.below hb5).sl encI_len) (ho5.sl encI_len))
                | (go_at_call 139; refine hne5.mono ?_; rintro e w6 ⟨rfl, rfl⟩)
                | (at_builtin; refine wpList_append_my _ rfl (.tmp 60) (.tmp 63) 39 rfl encU_len encU_one 5 i0 _ Tryz.underlying39 hi hz0 hz1 hz2 rfl (by decide) (base := w.heap.size) rfl (xs := word) (hw.below (below_next hb5 (alloc1 w6 _))) rfl (ys := [bb]) (Sl_one (enc := encU) (size := 1) w6 bb _ _) hbyt hwl2 (Nat.le_trans hB.size (below_next hb5 (alloc1 w6 _)).size) ?_; intro v7 w7 ho7 hg7 hb7 hl7; obtain ⟨A8, c8, rfl, hle8⟩ := ho7.form)
              go_roundw
              case rel =>
                obtain ⟨hex, hnx, hDD, hcin, hcur⟩ := HI.out
                obtain ⟨hN, hnxt⟩ := HN.out
                have hba : Below wr.heap.size wr (w6.alloc (.cells #[.int .u8 bb.toNat] 5)) := below_next hb5 (alloc1 w6 _)
                have hwA := hw.below hba
                refine ⟨left, word ++ [bb], rfl, by simpa using ho7, ?_, (hd.below hba).apart hg7 hwA (by decide), (hB.trans (hba.mono hB.size)).trans hl7, hnx bb (by rw [hnxt]; exact hN) (fun c hc => hNX.out c hc)⟩
                rw [after_snoc, hcur, hnxt]
                exact ((ho5.below (alloc1 w6 _)).lower hB.size).apart hg7 hwA (by decide)
              case measure => simp [intOf]
            · have hNb : (N == (left : Int)) = false := by simpa using hNl
              go_wp2_with first
                | (go_at_call 76; refine hst.mono ?_; rintro e w5 ⟨v5, rfl, ho5, hb5⟩; obtain ⟨A7, c7, rfl, hle7⟩ := ho5.form; have hq0y := (hb5.cell (p := ⟨b, 0, none⟩) (World.block_lt_of_cell? _ _ hq0z)).trans hq0z; have hne5 := hne w5 _ _ ((hd.below hb5).sl encI_len) (ho5.sl encI_len))
                | (go_at_call 139; refine hne5.mono ?_; rintro e w6 ⟨rfl, rfl⟩)
              go_roundw
              case rel =>
                obtain ⟨hN, hnxt⟩ := HN.out
                refine ⟨bb.toNat + 1, by omega, by go_num, rfl, rfl, hw.below hb5, hz.below hb5, hd.below hb5, below_next hB hb5, fun c hc => ?_⟩
                by_cases hcb : c.toNat = bb.toNat
                · rw [hcb, hnxt, hN]
                  exact hNl
                · exact hNX.out c (by omega)
              case measure => simp [intOf]; omega
          · exfalso
            obtain ⟨c, hc⟩ := HI.out.1
            exact hno c (by have := c.toNat_lt; omega) hc
  · intro hge
    go_wp2
    exact ⟨rfl, .inr ⟨rfl, fun w => no_word hD ha hn (by rw [hst, HL.out]; omega) w⟩, below_next hb1 hb2⟩
end Go.Proofs.YtakldmbbmefnbaaGreat
/- walk.tries: its deferred closure, and its ends. -/
namespace Go.Proofs.YtakldmbbmefnbaaGreat
open Go.RowKit Go.Sort Go.Proofs

theorem catch_idle_ints (p q : Addr) (w : World) :
    CallsD Tryz.prog 123 #[.pointer (some p), .pointer (some q)] .returning w fun e u' w' => e = .returned (.tuple #[]) ∧ u' = .returning ∧ w' = w := by
  refine callsD_of_wpS Tryz.func123 rfl fun c₀ cs hu => ?_
  apply wpS_seq
  apply wpS_region
  simp [wpOpsS, go_sem, recoverD, hu, Tryz.ntmps123, Exit.thenS]
  apply wpS_seq
  apply wpS_region
  simp [wpOpsS, go_sem, Exit.thenS]
  refine wpS_cond (t := false) (by simp [Act.eval, Array.replicate]) ?_
  simp only [Bool.false_eq_true, if_false]
  refine wpS_of_wp (wp_skip ?_)
  cases c₀
  simp_all [bodyPostS, results, Tryz.results123]

theorem assert_errno (e : Int) (w : World) : (Instr.typeAssert (.iface 30 (.int .i64 e)) 20 30 true).run Tryz.prog w = .ok (.tuple #[.int .i64 e, .bool true]) w := by
  simp [Instr.typeAssert, run_underlying Tryz.underlying30, go_sem, Result.andThen]

theorem catch_err_ints (p q : Addr) (x y : Value) (e : Int) (older : List PanicEntry) (w : World) (hp : w.cell? p = some x) (hpz : w.frozen? p = false) (hq : w.cell? q = some y) (hqz : w.frozen? q = false) (hpq : p.block ≠ q.block) :
    CallsD Tryz.prog 123 #[.pointer (some p), .pointer (some q)] (.panicking ({ v := .iface 30 (.int .i64 e), recovered := false } :: older)) w fun r u' w' =>
      r = .returned (.tuple #[]) ∧ u' = .panicking ({ v := .iface 30 (.int .i64 e), recovered := true } :: older) ∧ w' = (w.setCell p (.slice none 0 0)).setCell q (.int .i64 e) := by
  have hta := assert_errno e
  have hq2 : (w.setCell p (.slice none 0 0)).cell? q = some y := by rw [World.cell?_setCell_other _ _ _ _ (fun h => hpq (by rw [h]))]; exact hq
  have hq3 : (w.setCell p (.slice none 0 0)).frozen? q = false := by rw [World.frozen?_setCell]; exact hqz
  refine callsD_of_wpS Tryz.func123 rfl fun c₀ cs hu => ?_
  apply wpS_seq
  apply wpS_region
  simp [wpOpsS, go_sem, recoverD, hu, Tryz.ntmps123, Exit.thenS]
  apply wpS_seq
  apply wpS_region
  simp [wpOpsS, go_sem, Exit.thenS]
  refine wpS_cond (t := true) (by simp [Act.eval, Array.replicate]) ?_
  simp only [if_true]
  refine wpS_of_wp ?_
  simp only [Array.replicate_succ, Array.replicate_zero, List.push_toArray, List.nil_append, List.cons_append]
  go_wp2
  simp [bodyPostS, results, Tryz.results123]

theorem two_cells {W : World} {p q : Nat} {x y x0 y0 : Value} (hp : W.cell? ⟨p, 0, none⟩ = some x0) (hq : W.cell? ⟨q, 0, none⟩ = some y0) (hpq : p ≠ q) :
    ((W.setCell ⟨p, 0, none⟩ x).setCell ⟨q, 0, none⟩ y).cell? ⟨p, 0, none⟩ = some x ∧ ((W.setCell ⟨p, 0, none⟩ x).setCell ⟨q, 0, none⟩ y).cell? ⟨q, 0, none⟩ = some y := by
  have hne : (⟨q, 0, none⟩ : Addr) ≠ ⟨p, 0, none⟩ := fun h => hpq (by injection h with h; exact h.symm)
  have hq2 : (W.setCell ⟨p, 0, none⟩ x).cell? ⟨q, 0, none⟩ = some y0 := by rw [World.cell?_setCell_other _ _ _ _ (fun h => hne h.symm)]; exact hq
  refine ⟨?_, World.cell?_setCell_same' _ _ _ (by rw [hq2]; rfl)⟩
  rw [World.cell?_setCell_other _ _ _ _ hne]
  exact World.cell?_setCell_same' _ _ _ (by rw [hp]; rfl)

/-- The world behind the two variables' stores. -/
structure Stored (T : TypeId) (W w' : World) : Prop where
  ex : ∃ (p q : Nat) (x y : Value), w' = (W.setCell ⟨p, 0, none⟩ x).setCell ⟨q, 0, none⟩ y ∧ (∃ cs z, W.heap[p]? = some (.cells cs T z)) ∧ ∃ cs z, W.heap[q]? = some (.cells cs 30 z)

set_option maxRecDepth 100000
set_option maxHeartbeats 1000000
theorem tries_ints (a : A) (vs vf ve : Value) (g : Nat) (lb : Array Value) (w : World) (hen : ∀ args w, (callFunc g args).run Tryz.prog w = .ok (.enter g args) w) (hfa : FaAt w w.heap.size a vs vf ve) (hsh : Short a)
    (R : Ending → World → Prop) (hR : ∀ r W, R r W → (∃ A n c, r = .returned (.slice A n c)) ∨ ∃ e, r = .panicked (errPanic e))
    (hdoes : a.ok = true → ∀ W b, Below w.heap.size w W → Wk W b a vs vf ve → Calls Tryz.prog g (#[pw b] ++ lb) W (fun r W' => R r W' ∧ Below W.heap.size W W')) :
    Calls Tryz.prog 63 #[vA a vs vf ve, .func (.func g) #[] lb] w (fun r w' => Below w.heap.size w w' ∧
      ((a.ok = false ∧ r = .returned (.tuple #[.slice none 0 0, .int .i64 260])) ∨ (a.ok = true ∧ ∃ r0 W0, R r0 W0 ∧ Below w.heap.size w W0 ∧ Stored 22 W0 w' ∧ ((∃ v, r0 = .returned v ∧ r = .returned (.tuple #[v, .int .i64 0])) ∨ ∃ e, r0 = .panicked (errPanic e) ∧ r = .returned (.tuple #[.slice none 0 0, .int .i64 e]))))) := by
  have hmf : ∀ (fn : Fn) (first cap : Array Value) (w : World), (Instr.makeFunc fn first cap).run Tryz.prog w = .ok (.func fn first cap) w := fun _ _ _ _ => rfl
  obtain ⟨As, cs, rfl, _⟩ := id hfa.s
  obtain ⟨Af, cf, rfl, _⟩ := id hfa.f
  obtain ⟨Ae, ce, rfl, _⟩ := id hfa.e
  unfold vA
  obtain ⟨W1, hW1⟩ : ∃ W1, w.alloc (.cells #[.int .i64 a.states, .slice As a.start.length cs, .slice Af a.final.length cf, .slice Ae a.edges.length ce] 25) = W1 := ⟨_, rfl⟩
  obtain ⟨W2, hW2⟩ : ∃ W2, W1.alloc (.cells #[.slice none 0 0] 22) = W2 := ⟨_, rfl⟩
  obtain ⟨W3, hW3⟩ : ∃ W3, W2.alloc (.cells #[.int .i64 0] 30) = W3 := ⟨_, rfl⟩
  have d1 : Below w.heap.size w W1 := hW1 ▸ alloc1 w _
  have d2 : Below W1.heap.size W1 W2 := hW2 ▸ alloc1 W1 _
  have d3 : Below W2.heap.size W2 W3 := hW3 ▸ alloc1 W2 _
  have dw : Below w.heap.size w W3 := below_next d1 (below_next d2 d3)
  have z1 : W1.heap.size = w.heap.size + 1 := by rw [← hW1]; simp
  have z2 : W2.heap.size = W1.heap.size + 1 := by rw [← hW2]; simp
  have z3 : W3.heap.size = W2.heap.size + 1 := by rw [← hW3]; simp
  have b1 : W3.heap[w.heap.size]? = some (.cells #[.int .i64 a.states, .slice As a.start.length cs, .slice Af a.final.length cf, .slice Ae a.edges.length ce] 25 (0, 0)) := by
    rw [d3.block _ (by omega), d2.block _ (by omega), ← hW1]; exact heap_alloc_new w _
  have b2 : W3.heap[W1.heap.size]? = some (.cells #[.slice none 0 0] 22 (0, 0)) := by
    rw [d3.block _ (by omega), ← hW2]; exact heap_alloc_new W1 _
  have b3 : W3.heap[W2.heap.size]? = some (.cells #[.int .i64 0] 30 (0, 0)) := by rw [← hW3]; exact heap_alloc_new W2 _
  have hck := check_ok a _ _ _ W3 (hfa.below dw dw.size) hsh
  unfold vA at hck
  have e0 := cell_at b1 0; have e1 := cell_at b1 1; have e2 := cell_at b1 2; have e3 := cell_at b1 3
  simp only [List.getElem?_toArray, List.getElem?_cons_zero, List.getElem?_cons_succ] at e0 e1 e2 e3
  have HZ := Lib.hid (And.intro z1 (And.intro z2 z3))
  have HFA := Lib.hid hfa
  clear z1 z2 z3 hfa
  cases hok : a.ok with
  | false =>
    rw [hok] at hck
    have hfe : faErr false = 260 := rfl
    rw [hfe] at hck
    clear hfe hok hdoes
    go_enter_defers Tryz.func63, Tryz.ntmps63
    go_wp2_with first
      | (go_at_call 35; refine hck.mono ?_; rintro e w4 ⟨rfl, d4⟩)
      | (go_at_call 124; refine (need_no _ _).mono ?_; rintro e w5 ⟨rfl, rfl⟩)
    have hz := HZ.out
    have q2 := (d4.block _ (Array.getElem?_eq_some_iff.1 b2).1).trans b2
    have q3 := (d4.block _ (Array.getElem?_eq_some_iff.1 b3).1).trans b3
    have c2 := cell_at q2 0
    have c3 := cell_at q3 0
    simp only [List.getElem?_toArray, List.getElem?_cons_zero] at c2 c3
    obtain ⟨r1, r2⟩ := two_cells (x := .slice none 0 0) (y := .int .i64 260) c2 c3 (by omega)
    refine leaves_cons (f := 123) (args := #[pw W1.heap.size, pw W2.heap.size]) (by simp) (by simp [go_sem]) ?_
    refine (catch_err_ints ⟨W1.heap.size, 0, none⟩ ⟨W2.heap.size, 0, none⟩ _ _ 260 [] _ c2 (free_at q2 0) c3 (free_at q3 0) (by show W1.heap.size ≠ W2.heap.size; omega)).mono ?_
    rintro e u' w'' ⟨rfl, rfl, rfl⟩
    have hfin : Below w.heap.size w ((w5.setCell ⟨W1.heap.size, 0, none⟩ (.slice none 0 0)).setCell ⟨W2.heap.size, 0, none⟩ (.int .i64 260)) :=
      (((below_next dw d4).setCell (p := ⟨W1.heap.size, 0, none⟩) (by show w.heap.size ≤ W1.heap.size; omega) _).setCell (p := ⟨W2.heap.size, 0, none⟩) (by show w.heap.size ≤ W2.heap.size; omega) _)
    simp [Leaves, settle, results, Tryz.results63, go_sem, r1, r2]
    exact hfin
  | true =>
    rw [hok] at hck
    have hfe : faErr true = 0 := rfl
    rw [hfe] at hck
    have hdo := hdoes hok
    clear hfe hdoes
    have hlw := (Array.getElem?_eq_some_iff.1 b1).1
    go_enter_defers Tryz.func63, Tryz.ntmps63
    go_wp2_with first
      | (go_at_call 35; refine hck.mono ?_; rintro e w4 ⟨rfl, d4⟩; have f0 := (d4.cell (p := ⟨w.heap.size, 0, none⟩) hlw).trans e0; have f1 := (d4.cell (p := ⟨w.heap.size, 1, none⟩) hlw).trans e1; have f2 := (d4.cell (p := ⟨w.heap.size, 2, none⟩) hlw).trans e2; have f3 := (d4.cell (p := ⟨w.heap.size, 3, none⟩) hlw).trans e3)
      | (go_at_call 124; refine (need_ok _ _).mono ?_; rintro e w5 ⟨rfl, rfl⟩)
    obtain ⟨W6, hW6⟩ : ∃ W6, w5.alloc (.cells #[.int .i64 a.states, .slice As a.start.length cs, .slice Af a.final.length cf, .slice Ae a.edges.length ce] 141) = W6 := ⟨_, rfl⟩
    rw [hW6]
    have d6 : Below w5.heap.size w5 W6 := hW6 ▸ alloc1 w5 _
    have d36 : Below W3.heap.size W3 W6 := below_next d4 d6
    have dw6 := below_next dw d36
    have n6 : ∀ j, W6.cell? ⟨w5.heap.size, j, none⟩ = _ := fun j => hW6 ▸ cell_new w5 _ _ j
    have hwk : Wk W6 w5.heap.size a (.slice As a.start.length cs) (.slice Af a.final.length cf) (.slice Ae a.edges.length ce) :=
      ⟨by rw [← hW6]; simp, n6 0, n6 1, n6 2, n6 3, HFA.out.below dw6 dw6.size⟩
    refine (hdo W6 w5.heap.size dw6 hwk).mono ?_
    rintro r w7 ⟨hRr, d7⟩
    have hz := HZ.out
    have d37 := below_next d36 d7
    have dw7 := below_next dw d37
    have q2 := (d37.block _ (Array.getElem?_eq_some_iff.1 b2).1).trans b2
    have q3 := (d37.block _ (Array.getElem?_eq_some_iff.1 b3).1).trans b3
    have c2 := cell_at q2 0
    have c3 := cell_at q3 0
    simp only [List.getElem?_toArray, List.getElem?_cons_zero] at c2 c3
    have g2 := free_at q2 0
    have g3 := free_at q3 0
    have hsto := fun (x y : Value) => (⟨W1.heap.size, W2.heap.size, x, y, rfl, ⟨_, _, q2⟩, _, _, q3⟩ : ∃ (p q : Nat) (x' y' : Value), (w7.setCell ⟨W1.heap.size, 0, none⟩ x).setCell ⟨W2.heap.size, 0, none⟩ y = (w7.setCell ⟨p, 0, none⟩ x').setCell ⟨q, 0, none⟩ y' ∧ (∃ cs z, w7.heap[p]? = some (.cells cs 22 z)) ∧ ∃ cs z, w7.heap[q]? = some (.cells cs 30 z))
    have hfin := fun (x y : Value) => (dw7.setCell (p := ⟨W1.heap.size, 0, none⟩) (by show w.heap.size ≤ W1.heap.size; omega) x).setCell (p := ⟨W2.heap.size, 0, none⟩) (by show w.heap.size ≤ W2.heap.size; omega) y
    have htc := fun (x y : Value) => two_cells (x := x) (y := y) c2 c3 (by omega)
    have hne : ¬ W1.heap.size = W2.heap.size := by omega
    have HX := Lib.hid (And.intro hRr (And.intro dw7 (And.intro hsto hfin)))
    have hRc := hR r w7 hRr
    clear hRr hR hsto hfin hdo hck hz
    rcases hRc with ⟨A7, n7, c7, rfl⟩ | ⟨e, rfl⟩
    · obtain ⟨r1, r2⟩ := htc (.slice A7 n7 c7) (.int .i64 0)
      have c4 : (w7.setCell ⟨W1.heap.size, 0, none⟩ (.slice A7 n7 c7)).cell? ⟨W2.heap.size, 0, none⟩ = some (.int .i64 0) := by
        rw [World.cell?_setCell_other _ _ _ _ (fun h => hne (by injection h))]; exact c3
      clear htc
      go_wp2
      refine leaves_cons (f := 123) (args := #[pw W1.heap.size, pw W2.heap.size]) (by simp) (by simp [go_sem]) ?_
      refine (catch_idle_ints ⟨W1.heap.size, 0, none⟩ ⟨W2.heap.size, 0, none⟩ _).mono ?_
      rintro e' u' w'' ⟨rfl, rfl, rfl⟩
      obtain ⟨hRr, dw7, hsto, hfin⟩ := HX.out
      simp [Leaves, settle, results, Tryz.results63, go_sem, r1, r2]
      exact ⟨hfin _ _, _, w7, hRr, dw7, ⟨hsto _ _⟩, .inl rfl⟩
    · obtain ⟨r1, r2⟩ := htc (.slice none 0 0) (.int .i64 e)
      clear htc
      go_wp2
      refine leaves_cons (f := 123) (args := #[pw W1.heap.size, pw W2.heap.size]) (by simp) (by simp [go_sem]) ?_
      refine (catch_err_ints ⟨W1.heap.size, 0, none⟩ ⟨W2.heap.size, 0, none⟩ _ _ e [] _ c2 g2 c3 g3 hne).mono ?_
      rintro e' u' w'' ⟨rfl, rfl, rfl⟩
      obtain ⟨hRr, dw7, hsto, hfin⟩ := HX.out
      simp [Leaves, settle, results, Tryz.results63, go_sem, r1, r2]
      exact ⟨hfin _ _, _, w7, hRr, dw7, ⟨hsto _ _⟩, .inr rfl⟩
end Go.Proofs.YtakldmbbmefnbaaGreat
/- walk.tries, at another type. -/
namespace Go.Proofs.YtakldmbbmefnbaaGreat
open Go.RowKit Go.Sort Go.Proofs

theorem catch_idle_strs (p q : Addr) (w : World) :
    CallsD Tryz.prog 137 #[.pointer (some p), .pointer (some q)] .returning w fun e u' w' => e = .returned (.tuple #[]) ∧ u' = .returning ∧ w' = w := by
  refine callsD_of_wpS Tryz.func137 rfl fun c₀ cs hu => ?_
  apply wpS_seq
  apply wpS_region
  simp [wpOpsS, go_sem, recoverD, hu, Tryz.ntmps137, Exit.thenS]
  apply wpS_seq
  apply wpS_region
  simp [wpOpsS, go_sem, Exit.thenS]
  refine wpS_cond (t := false) (by simp [Act.eval, Array.replicate]) ?_
  simp only [Bool.false_eq_true, if_false]
  refine wpS_of_wp (wp_skip ?_)
  cases c₀
  simp_all [bodyPostS, results, Tryz.results137]

theorem catch_err_strs (p q : Addr) (x y : Value) (e : Int) (older : List PanicEntry) (w : World) (hp : w.cell? p = some x) (hpz : w.frozen? p = false) (hq : w.cell? q = some y) (hqz : w.frozen? q = false) (hpq : p.block ≠ q.block) :
    CallsD Tryz.prog 137 #[.pointer (some p), .pointer (some q)] (.panicking ({ v := .iface 30 (.int .i64 e), recovered := false } :: older)) w fun r u' w' =>
      r = .returned (.tuple #[]) ∧ u' = .panicking ({ v := .iface 30 (.int .i64 e), recovered := true } :: older) ∧ w' = (w.setCell p (.string ⟨#[]⟩)).setCell q (.int .i64 e) := by
  have hta := assert_errno e
  have hq2 : (w.setCell p (.string ⟨#[]⟩)).cell? q = some y := by rw [World.cell?_setCell_other _ _ _ _ (fun h => hpq (by rw [h]))]; exact hq
  have hq3 : (w.setCell p (.string ⟨#[]⟩)).frozen? q = false := by rw [World.frozen?_setCell]; exact hqz
  refine callsD_of_wpS Tryz.func137 rfl fun c₀ cs hu => ?_
  apply wpS_seq
  apply wpS_region
  simp [wpOpsS, go_sem, recoverD, hu, Tryz.ntmps137, Exit.thenS]
  apply wpS_seq
  apply wpS_region
  simp [wpOpsS, go_sem, Exit.thenS]
  refine wpS_cond (t := true) (by simp [Act.eval, Array.replicate]) ?_
  simp only [if_true]
  refine wpS_of_wp ?_
  simp only [Array.replicate_succ, Array.replicate_zero, List.push_toArray, List.nil_append, List.cons_append]
  go_wp2
  simp [bodyPostS, results, Tryz.results137]

set_option maxRecDepth 100000
set_option maxHeartbeats 1000000
theorem tries_strs (a : A) (vs vf ve : Value) (g : Nat) (lb : Array Value) (w : World) (hen : ∀ args w, (callFunc g args).run Tryz.prog w = .ok (.enter g args) w) (hfa : FaAt w w.heap.size a vs vf ve) (hsh : Short a)
    (R : Ending → World → Prop) (hR : ∀ r W, R r W → (∃ s, r = .returned (.string s)) ∨ ∃ e, r = .panicked (errPanic e))
    (hdoes : a.ok = true → ∀ W b, Below w.heap.size w W → Wk W b a vs vf ve → Calls Tryz.prog g (#[pw b] ++ lb) W (fun r W' => R r W' ∧ Below W.heap.size W W')) :
    Calls Tryz.prog 85 #[vA a vs vf ve, .func (.func g) #[] lb] w (fun r w' => Below w.heap.size w w' ∧
      ((a.ok = false ∧ r = .returned (.tuple #[.string ⟨#[]⟩, .int .i64 260])) ∨ (a.ok = true ∧ ∃ r0 W0, R r0 W0 ∧ Below w.heap.size w W0 ∧ Stored 9 W0 w' ∧ ((∃ v, r0 = .returned v ∧ r = .returned (.tuple #[v, .int .i64 0])) ∨ ∃ e, r0 = .panicked (errPanic e) ∧ r = .returned (.tuple #[.string ⟨#[]⟩, .int .i64 e]))))) := by
  have hmf : ∀ (fn : Fn) (first cap : Array Value) (w : World), (Instr.makeFunc fn first cap).run Tryz.prog w = .ok (.func fn first cap) w := fun _ _ _ _ => rfl
  obtain ⟨As, cs, rfl, _⟩ := id hfa.s
  obtain ⟨Af, cf, rfl, _⟩ := id hfa.f
  obtain ⟨Ae, ce, rfl, _⟩ := id hfa.e
  unfold vA
  obtain ⟨W1, hW1⟩ : ∃ W1, w.alloc (.cells #[.int .i64 a.states, .slice As a.start.length cs, .slice Af a.final.length cf, .slice Ae a.edges.length ce] 25) = W1 := ⟨_, rfl⟩
  obtain ⟨W2, hW2⟩ : ∃ W2, W1.alloc (.cells #[.string ⟨#[]⟩] 9) = W2 := ⟨_, rfl⟩
  obtain ⟨W3, hW3⟩ : ∃ W3, W2.alloc (.cells #[.int .i64 0] 30) = W3 := ⟨_, rfl⟩
  have d1 : Below w.heap.size w W1 := hW1 ▸ alloc1 w _
  have d2 : Below W1.heap.size W1 W2 := hW2 ▸ alloc1 W1 _
  have d3 : Below W2.heap.size W2 W3 := hW3 ▸ alloc1 W2 _
  have dw : Below w.heap.size w W3 := below_next d1 (below_next d2 d3)
  have z1 : W1.heap.size = w.heap.size + 1 := by rw [← hW1]; simp
  have z2 : W2.heap.size = W1.heap.size + 1 := by rw [← hW2]; simp
  have z3 : W3.heap.size = W2.heap.size + 1 := by rw [← hW3]; simp
  have b1 : W3.heap[w.heap.size]? = some (.cells #[.int .i64 a.states, .slice As a.start.length cs, .slice Af a.final.length cf, .slice Ae a.edges.length ce] 25 (0, 0)) := by
    rw [d3.block _ (by omega), d2.block _ (by omega), ← hW1]; exact heap_alloc_new w _
  have b2 : W3.heap[W1.heap.size]? = some (.cells #[.string ⟨#[]⟩] 9 (0, 0)) := by
    rw [d3.block _ (by omega), ← hW2]; exact heap_alloc_new W1 _
  have b3 : W3.heap[W2.heap.size]? = some (.cells #[.int .i64 0] 30 (0, 0)) := by rw [← hW3]; exact heap_alloc_new W2 _
  have hck := check_ok a _ _ _ W3 (hfa.below dw dw.size) hsh
  unfold vA at hck
  have e0 := cell_at b1 0; have e1 := cell_at b1 1; have e2 := cell_at b1 2; have e3 := cell_at b1 3
  simp only [List.getElem?_toArray, List.getElem?_cons_zero, List.getElem?_cons_succ] at e0 e1 e2 e3
  have HZ := Lib.hid (And.intro z1 (And.intro z2 z3))
  have HFA := Lib.hid hfa
  clear z1 z2 z3 hfa
  cases hok : a.ok with
  | false =>
    rw [hok] at hck
    have hfe : faErr false = 260 := rfl
    rw [hfe] at hck
    clear hfe hok hdoes
    go_enter_defers Tryz.func85, Tryz.ntmps85
    go_wp2_with first
      | (go_at_call 35; refine hck.mono ?_; rintro e w4 ⟨rfl, d4⟩)
      | (go_at_call 124; refine (need_no _ _).mono ?_; rintro e w5 ⟨rfl, rfl⟩)
    have hz := HZ.out
    have q2 := (d4.block _ (Array.getElem?_eq_some_iff.1 b2).1).trans b2
    have q3 := (d4.block _ (Array.getElem?_eq_some_iff.1 b3).1).trans b3
    have c2 := cell_at q2 0
    have c3 := cell_at q3 0
    simp only [List.getElem?_toArray, List.getElem?_cons_zero] at c2 c3
    obtain ⟨r1, r2⟩ := two_cells (x := .string ⟨#[]⟩) (y := .int .i64 260) c2 c3 (by omega)
    refine leaves_cons (f := 137) (args := #[pw W1.heap.size, pw W2.heap.size]) (by simp) (by simp [go_sem]) ?_
    refine (catch_err_strs ⟨W1.heap.size, 0, none⟩ ⟨W2.heap.size, 0, none⟩ _ _ 260 [] _ c2 (free_at q2 0) c3 (free_at q3 0) (by show W1.heap.size ≠ W2.heap.size; omega)).mono ?_
    rintro e u' w'' ⟨rfl, rfl, rfl⟩
    have hfin : Below w.heap.size w ((w5.setCell ⟨W1.heap.size, 0, none⟩ (.string ⟨#[]⟩)).setCell ⟨W2.heap.size, 0, none⟩ (.int .i64 260)) :=
      (((below_next dw d4).setCell (p := ⟨W1.heap.size, 0, none⟩) (by show w.heap.size ≤ W1.heap.size; omega) _).setCell (p := ⟨W2.heap.size, 0, none⟩) (by show w.heap.size ≤ W2.heap.size; omega) _)
    simp [Leaves, settle, results, Tryz.results85, go_sem, r1, r2]
    exact hfin
  | true =>
    rw [hok] at hck
    have hfe : faErr true = 0 := rfl
    rw [hfe] at hck
    have hdo := hdoes hok
    clear hfe hdoes
    have hlw := (Array.getElem?_eq_some_iff.1 b1).1
    go_enter_defers Tryz.func85, Tryz.ntmps85
    go_wp2_with first
      | (go_at_call 35; refine hck.mono ?_; rintro e w4 ⟨rfl, d4⟩; have f0 := (d4.cell (p := ⟨w.heap.size, 0, none⟩) hlw).trans e0; have f1 := (d4.cell (p := ⟨w.heap.size, 1, none⟩) hlw).trans e1; have f2 := (d4.cell (p := ⟨w.heap.size, 2, none⟩) hlw).trans e2; have f3 := (d4.cell (p := ⟨w.heap.size, 3, none⟩) hlw).trans e3)
      | (go_at_call 124; refine (need_ok _ _).mono ?_; rintro e w5 ⟨rfl, rfl⟩)
    obtain ⟨W6, hW6⟩ : ∃ W6, w5.alloc (.cells #[.int .i64 a.states, .slice As a.start.length cs, .slice Af a.final.length cf, .slice Ae a.edges.length ce] 141) = W6 := ⟨_, rfl⟩
    rw [hW6]
    have d6 : Below w5.heap.size w5 W6 := hW6 ▸ alloc1 w5 _
    have d36 : Below W3.heap.size W3 W6 := below_next d4 d6
    have dw6 := below_next dw d36
    have n6 : ∀ j, W6.cell? ⟨w5.heap.size, j, none⟩ = _ := fun j => hW6 ▸ cell_new w5 _ _ j
    have hwk : Wk W6 w5.heap.size a (.slice As a.start.length cs) (.slice Af a.final.length cf) (.slice Ae a.edges.length ce) :=
      ⟨by rw [← hW6]; simp, n6 0, n6 1, n6 2, n6 3, HFA.out.below dw6 dw6.size⟩
    refine (hdo W6 w5.heap.size dw6 hwk).mono ?_
    rintro r w7 ⟨hRr, d7⟩
    have hz := HZ.out
    have d37 := below_next d36 d7
    have dw7 := below_next dw d37
    have q2 := (d37.block _ (Array.getElem?_eq_some_iff.1 b2).1).trans b2
    have q3 := (d37.block _ (Array.getElem?_eq_some_iff.1 b3).1).trans b3
    have c2 := cell_at q2 0
    have c3 := cell_at q3 0
    simp only [List.getElem?_toArray, List.getElem?_cons_zero] at c2 c3
    have g2 := free_at q2 0
    have g3 := free_at q3 0
    have hsto := fun (x y : Value) => (⟨W1.heap.size, W2.heap.size, x, y, rfl, ⟨_, _, q2⟩, _, _, q3⟩ : ∃ (p q : Nat) (x' y' : Value), (w7.setCell ⟨W1.heap.size, 0, none⟩ x).setCell ⟨W2.heap.size, 0, none⟩ y = (w7.setCell ⟨p, 0, none⟩ x').setCell ⟨q, 0, none⟩ y' ∧ (∃ cs z, w7.heap[p]? = some (.cells cs 9 z)) ∧ ∃ cs z, w7.heap[q]? = some (.cells cs 30 z))
    have hfin := fun (x y : Value) => (dw7.setCell (p := ⟨W1.heap.size, 0, none⟩) (by show w.heap.size ≤ W1.heap.size; omega) x).setCell (p := ⟨W2.heap.size, 0, none⟩) (by show w.heap.size ≤ W2.heap.size; omega) y
    have htc := fun (x y : Value) => two_cells (x := x) (y := y) c2 c3 (by omega)
    have hne : ¬ W1.heap.size = W2.heap.size := by omega
    have HX := Lib.hid (And.intro hRr (And.intro dw7 (And.intro hsto hfin)))
    have hRc := hR r w7 hRr
    clear hRr hR hsto hfin hdo hck hz
    rcases hRc with ⟨s7, rfl⟩ | ⟨e, rfl⟩
    · obtain ⟨r1, r2⟩ := htc (.string s7) (.int .i64 0)
      have c4 : (w7.setCell ⟨W1.heap.size, 0, none⟩ (.string s7)).cell? ⟨W2.heap.size, 0, none⟩ = some (.int .i64 0) := by
        rw [World.cell?_setCell_other _ _ _ _ (fun h => hne (by injection h))]; exact c3
      clear htc
      go_wp2
      refine leaves_cons (f := 137) (args := #[pw W1.heap.size, pw W2.heap.size]) (by simp) (by simp [go_sem]) ?_
      refine (catch_idle_strs ⟨W1.heap.size, 0, none⟩ ⟨W2.heap.size, 0, none⟩ _).mono ?_
      rintro e' u' w'' ⟨rfl, rfl, rfl⟩
      obtain ⟨hRr, dw7, hsto, hfin⟩ := HX.out
      simp [Leaves, settle, results, Tryz.results85, go_sem, r1, r2]
      exact ⟨hfin _ _, _, w7, hRr, dw7, ⟨hsto _ _⟩, .inl rfl⟩
    · obtain ⟨r1, r2⟩ := htc (.string ⟨#[]⟩) (.int .i64 e)
      clear htc
      go_wp2
      refine leaves_cons (f := 137) (args := #[pw W1.heap.size, pw W2.heap.size]) (by simp) (by simp [go_sem]) ?_
      refine (catch_err_strs ⟨W1.heap.size, 0, none⟩ ⟨W2.heap.size, 0, none⟩ _ _ e [] _ c2 g2 c3 g3 hne).mono ?_
      rintro e' u' w'' ⟨rfl, rfl, rfl⟩
      obtain ⟨hRr, dw7, hsto, hfin⟩ := HX.out
      simp [Leaves, settle, results, Tryz.results85, go_sem, r1, r2]
      exact ⟨hfin _ _, _, w7, hRr, dw7, ⟨hsto _ _⟩, .inr rfl⟩
end Go.Proofs.YtakldmbbmefnbaaGreat
/- walk.tries, at another type. -/
namespace Go.Proofs.YtakldmbbmefnbaaGreat
open Go.RowKit Go.Sort Go.Proofs

theorem catch_idle_bool (p q : Addr) (w : World) :
    CallsD Tryz.prog 135 #[.pointer (some p), .pointer (some q)] .returning w fun e u' w' => e = .returned (.tuple #[]) ∧ u' = .returning ∧ w' = w := by
  refine callsD_of_wpS Tryz.func135 rfl fun c₀ cs hu => ?_
  apply wpS_seq
  apply wpS_region
  simp [wpOpsS, go_sem, recoverD, hu, Tryz.ntmps135, Exit.thenS]
  apply wpS_seq
  apply wpS_region
  simp [wpOpsS, go_sem, Exit.thenS]
  refine wpS_cond (t := false) (by simp [Act.eval, Array.replicate]) ?_
  simp only [Bool.false_eq_true, if_false]
  refine wpS_of_wp (wp_skip ?_)
  cases c₀
  simp_all [bodyPostS, results, Tryz.results135]

theorem catch_err_bool (p q : Addr) (x y : Value) (e : Int) (older : List PanicEntry) (w : World) (hp : w.cell? p = some x) (hpz : w.frozen? p = false) (hq : w.cell? q = some y) (hqz : w.frozen? q = false) (hpq : p.block ≠ q.block) :
    CallsD Tryz.prog 135 #[.pointer (some p), .pointer (some q)] (.panicking ({ v := .iface 30 (.int .i64 e), recovered := false } :: older)) w fun r u' w' =>
      r = .returned (.tuple #[]) ∧ u' = .panicking ({ v := .iface 30 (.int .i64 e), recovered := true } :: older) ∧ w' = (w.setCell p (.bool false)).setCell q (.int .i64 e) := by
  have hta := assert_errno e
  have hq2 : (w.setCell p (.bool false)).cell? q = some y := by rw [World.cell?_setCell_other _ _ _ _ (fun h => hpq (by rw [h]))]; exact hq
  have hq3 : (w.setCell p (.bool false)).frozen? q = false := by rw [World.frozen?_setCell]; exact hqz
  refine callsD_of_wpS Tryz.func135 rfl fun c₀ cs hu => ?_
  apply wpS_seq
  apply wpS_region
  simp [wpOpsS, go_sem, recoverD, hu, Tryz.ntmps135, Exit.thenS]
  apply wpS_seq
  apply wpS_region
  simp [wpOpsS, go_sem, Exit.thenS]
  refine wpS_cond (t := true) (by simp [Act.eval, Array.replicate]) ?_
  simp only [if_true]
  refine wpS_of_wp ?_
  simp only [Array.replicate_succ, Array.replicate_zero, List.push_toArray, List.nil_append, List.cons_append]
  go_wp2
  simp [bodyPostS, results, Tryz.results135]

set_option maxRecDepth 100000
set_option maxHeartbeats 1000000
theorem tries_bool (a : A) (vs vf ve : Value) (g : Nat) (lb : Array Value) (w : World) (hen : ∀ args w, (callFunc g args).run Tryz.prog w = .ok (.enter g args) w) (hfa : FaAt w w.heap.size a vs vf ve) (hsh : Short a)
    (R : Ending → World → Prop) (hR : ∀ r W, R r W → (∃ b, r = .returned (.bool b)) ∨ ∃ e, r = .panicked (errPanic e))
    (hdoes : a.ok = true → ∀ W b, Below w.heap.size w W → Wk W b a vs vf ve → Calls Tryz.prog g (#[pw b] ++ lb) W (fun r W' => R r W' ∧ Below W.heap.size W W')) :
    Calls Tryz.prog 81 #[vA a vs vf ve, .func (.func g) #[] lb] w (fun r w' => Below w.heap.size w w' ∧
      ((a.ok = false ∧ r = .returned (.tuple #[.bool false, .int .i64 260])) ∨ (a.ok = true ∧ ∃ r0 W0, R r0 W0 ∧ Below w.heap.size w W0 ∧ Stored 4 W0 w' ∧ ((∃ v, r0 = .returned v ∧ r = .returned (.tuple #[v, .int .i64 0])) ∨ ∃ e, r0 = .panicked (errPanic e) ∧ r = .returned (.tuple #[.bool false, .int .i64 e]))))) := by
  have hmf : ∀ (fn : Fn) (first cap : Array Value) (w : World), (Instr.makeFunc fn first cap).run Tryz.prog w = .ok (.func fn first cap) w := fun _ _ _ _ => rfl
  obtain ⟨As, cs, rfl, _⟩ := id hfa.s
  obtain ⟨Af, cf, rfl, _⟩ := id hfa.f
  obtain ⟨Ae, ce, rfl, _⟩ := id hfa.e
  unfold vA
  obtain ⟨W1, hW1⟩ : ∃ W1, w.alloc (.cells #[.int .i64 a.states, .slice As a.start.length cs, .slice Af a.final.length cf, .slice Ae a.edges.length ce] 25) = W1 := ⟨_, rfl⟩
  obtain ⟨W2, hW2⟩ : ∃ W2, W1.alloc (.cells #[.bool false] 4) = W2 := ⟨_, rfl⟩
  obtain ⟨W3, hW3⟩ : ∃ W3, W2.alloc (.cells #[.int .i64 0] 30) = W3 := ⟨_, rfl⟩
  have d1 : Below w.heap.size w W1 := hW1 ▸ alloc1 w _
  have d2 : Below W1.heap.size W1 W2 := hW2 ▸ alloc1 W1 _
  have d3 : Below W2.heap.size W2 W3 := hW3 ▸ alloc1 W2 _
  have dw : Below w.heap.size w W3 := below_next d1 (below_next d2 d3)
  have z1 : W1.heap.size = w.heap.size + 1 := by rw [← hW1]; simp
  have z2 : W2.heap.size = W1.heap.size + 1 := by rw [← hW2]; simp
  have z3 : W3.heap.size = W2.heap.size + 1 := by rw [← hW3]; simp
  have b1 : W3.heap[w.heap.size]? = some (.cells #[.int .i64 a.states, .slice As a.start.length cs, .slice Af a.final.length cf, .slice Ae a.edges.length ce] 25 (0, 0)) := by
    rw [d3.block _ (by omega), d2.block _ (by omega), ← hW1]; exact heap_alloc_new w _
  have b2 : W3.heap[W1.heap.size]? = some (.cells #[.bool false] 4 (0, 0)) := by
    rw [d3.block _ (by omega), ← hW2]; exact heap_alloc_new W1 _
  have b3 : W3.heap[W2.heap.size]? = some (.cells #[.int .i64 0] 30 (0, 0)) := by rw [← hW3]; exact heap_alloc_new W2 _
  have hck := check_ok a _ _ _ W3 (hfa.below dw dw.size) hsh
  unfold vA at hck
  have e0 := cell_at b1 0; have e1 := cell_at b1 1; have e2 := cell_at b1 2; have e3 := cell_at b1 3
  simp only [List.getElem?_toArray, List.getElem?_cons_zero, List.getElem?_cons_succ] at e0 e1 e2 e3
  have HZ := Lib.hid (And.intro z1 (And.intro z2 z3))
  have HFA := Lib.hid hfa
  clear z1 z2 z3 hfa
  cases hok : a.ok with
  | false =>
    rw [hok] at hck
    have hfe : faErr false = 260 := rfl
    rw [hfe] at hck
    clear hfe hok hdoes
    go_enter_defers Tryz.func81, Tryz.ntmps81
    go_wp2_with first
      | (go_at_call 35; refine hck.mono ?_; rintro e w4 ⟨rfl, d4⟩)
      | (go_at_call 124; refine (need_no _ _).mono ?_; rintro e w5 ⟨rfl, rfl⟩)
    have hz := HZ.out
    have q2 := (d4.block _ (Array.getElem?_eq_some_iff.1 b2).1).trans b2
    have q3 := (d4.block _ (Array.getElem?_eq_some_iff.1 b3).1).trans b3
    have c2 := cell_at q2 0
    have c3 := cell_at q3 0
    simp only [List.getElem?_toArray, List.getElem?_cons_zero] at c2 c3
    obtain ⟨r1, r2⟩ := two_cells (x := .bool false) (y := .int .i64 260) c2 c3 (by omega)
    refine leaves_cons (f := 135) (args := #[pw W1.heap.size, pw W2.heap.size]) (by simp) (by simp [go_sem]) ?_
    refine (catch_err_bool ⟨W1.heap.size, 0, none⟩ ⟨W2.heap.size, 0, none⟩ _ _ 260 [] _ c2 (free_at q2 0) c3 (free_at q3 0) (by show W1.heap.size ≠ W2.heap.size; omega)).mono ?_
    rintro e u' w'' ⟨rfl, rfl, rfl⟩
    have hfin : Below w.heap.size w ((w5.setCell ⟨W1.heap.size, 0, none⟩ (.bool false)).setCell ⟨W2.heap.size, 0, none⟩ (.int .i64 260)) :=
      (((below_next dw d4).setCell (p := ⟨W1.heap.size, 0, none⟩) (by show w.heap.size ≤ W1.heap.size; omega) _).setCell (p := ⟨W2.heap.size, 0, none⟩) (by show w.heap.size ≤ W2.heap.size; omega) _)
    simp [Leaves, settle, results, Tryz.results81, go_sem, r1, r2]
    exact hfin
  | true =>
    rw [hok] at hck
    have hfe : faErr true = 0 := rfl
    rw [hfe] at hck
    have hdo := hdoes hok
    clear hfe hdoes
    have hlw := (Array.getElem?_eq_some_iff.1 b1).1
    go_enter_defers Tryz.func81, Tryz.ntmps81
    go_wp2_with first
      | (go_at_call 35; refine hck.mono ?_; rintro e w4 ⟨rfl, d4⟩; have f0 := (d4.cell (p := ⟨w.heap.size, 0, none⟩) hlw).trans e0; have f1 := (d4.cell (p := ⟨w.heap.size, 1, none⟩) hlw).trans e1; have f2 := (d4.cell (p := ⟨w.heap.size, 2, none⟩) hlw).trans e2; have f3 := (d4.cell (p := ⟨w.heap.size, 3, none⟩) hlw).trans e3)
      | (go_at_call 124; refine (need_ok _ _).mono ?_; rintro e w5 ⟨rfl, rfl⟩)
    obtain ⟨W6, hW6⟩ : ∃ W6, w5.alloc (.cells #[.int .i64 a.states, .slice As a.start.length cs, .slice Af a.final.length cf, .slice Ae a.edges.length ce] 141) = W6 := ⟨_, rfl⟩
    rw [hW6]
    have d6 : Below w5.heap.size w5 W6 := hW6 ▸ alloc1 w5 _
    have d36 : Below W3.heap.size W3 W6 := below_next d4 d6
    have dw6 := below_next dw d36
    have n6 : ∀ j, W6.cell? ⟨w5.heap.size, j, none⟩ = _ := fun j => hW6 ▸ cell_new w5 _ _ j
    have hwk : Wk W6 w5.heap.size a (.slice As a.start.length cs) (.slice Af a.final.length cf) (.slice Ae a.edges.length ce) :=
      ⟨by rw [← hW6]; simp, n6 0, n6 1, n6 2, n6 3, HFA.out.below dw6 dw6.size⟩
    refine (hdo W6 w5.heap.size dw6 hwk).mono ?_
    rintro r w7 ⟨hRr, d7⟩
    have hz := HZ.out
    have d37 := below_next d36 d7
    have dw7 := below_next dw d37
    have q2 := (d37.block _ (Array.getElem?_eq_some_iff.1 b2).1).trans b2
    have q3 := (d37.block _ (Array.getElem?_eq_some_iff.1 b3).1).trans b3
    have c2 := cell_at q2 0
    have c3 := cell_at q3 0
    simp only [List.getElem?_toArray, List.getElem?_cons_zero] at c2 c3
    have g2 := free_at q2 0
    have g3 := free_at q3 0
    have hsto := fun (x y : Value) => (⟨W1.heap.size, W2.heap.size, x, y, rfl, ⟨_, _, q2⟩, _, _, q3⟩ : ∃ (p q : Nat) (x' y' : Value), (w7.setCell ⟨W1.heap.size, 0, none⟩ x).setCell ⟨W2.heap.size, 0, none⟩ y = (w7.setCell ⟨p, 0, none⟩ x').setCell ⟨q, 0, none⟩ y' ∧ (∃ cs z, w7.heap[p]? = some (.cells cs 4 z)) ∧ ∃ cs z, w7.heap[q]? = some (.cells cs 30 z))
    have hfin := fun (x y : Value) => (dw7.setCell (p := ⟨W1.heap.size, 0, none⟩) (by show w.heap.size ≤ W1.heap.size; omega) x).setCell (p := ⟨W2.heap.size, 0, none⟩) (by show w.heap.size ≤ W2.heap.size; omega) y
    have htc := fun (x y : Value) => two_cells (x := x) (y := y) c2 c3 (by omega)
    have hne : ¬ W1.heap.size = W2.heap.size := by omega
    have HX := Lib.hid (And.intro hRr (And.intro dw7 (And.intro hsto hfin)))
    have hRc := hR r w7 hRr
    clear hRr hR hsto hfin hdo hck hz
    rcases hRc with ⟨b7, rfl⟩ | ⟨e, rfl⟩
    · obtain ⟨r1, r2⟩ := htc (.bool b7) (.int .i64 0)
      have c4 : (w7.setCell ⟨W1.heap.size, 0, none⟩ (.bool b7)).cell? ⟨W2.heap.size, 0, none⟩ = some (.int .i64 0) := by
        rw [World.cell?_setCell_other _ _ _ _ (fun h => hne (by injection h))]; exact c3
      clear htc
      go_wp2
      refine leaves_cons (f := 135) (args := #[pw W1.heap.size, pw W2.heap.size]) (by simp) (by simp [go_sem]) ?_
      refine (catch_idle_bool ⟨W1.heap.size, 0, none⟩ ⟨W2.heap.size, 0, none⟩ _).mono ?_
      rintro e' u' w'' ⟨rfl, rfl, rfl⟩
      obtain ⟨hRr, dw7, hsto, hfin⟩ := HX.out
      simp [Leaves, settle, results, Tryz.results81, go_sem, r1, r2]
      exact ⟨hfin _ _, _, w7, hRr, dw7, ⟨hsto _ _⟩, .inl rfl⟩
    · obtain ⟨r1, r2⟩ := htc (.bool false) (.int .i64 e)
      clear htc
      go_wp2
      refine leaves_cons (f := 135) (args := #[pw W1.heap.size, pw W2.heap.size]) (by simp) (by simp [go_sem]) ?_
      refine (catch_err_bool ⟨W1.heap.size, 0, none⟩ ⟨W2.heap.size, 0, none⟩ _ _ e [] _ c2 g2 c3 g3 hne).mono ?_
      rintro e' u' w'' ⟨rfl, rfl, rfl⟩
      obtain ⟨hRr, dw7, hsto, hfin⟩ := HX.out
      simp [Leaves, settle, results, Tryz.results81, go_sem, r1, r2]
      exact ⟨hfin _ _, _, w7, hRr, dw7, ⟨hsto _ _⟩, .inr rfl⟩
end Go.Proofs.YtakldmbbmefnbaaGreat
/- walk.tries, at another type. -/
namespace Go.Proofs.YtakldmbbmefnbaaGreat
open Go.RowKit Go.Sort Go.Proofs

theorem catch_idle_rows (p q : Addr) (w : World) :
    CallsD Tryz.prog 134 #[.pointer (some p), .pointer (some q)] .returning w fun e u' w' => e = .returned (.tuple #[]) ∧ u' = .returning ∧ w' = w := by
  refine callsD_of_wpS Tryz.func134 rfl fun c₀ cs hu => ?_
  apply wpS_seq
  apply wpS_region
  simp [wpOpsS, go_sem, recoverD, hu, Tryz.ntmps134, Exit.thenS]
  apply wpS_seq
  apply wpS_region
  simp [wpOpsS, go_sem, Exit.thenS]
  refine wpS_cond (t := false) (by simp [Act.eval, Array.replicate]) ?_
  simp only [Bool.false_eq_true, if_false]
  refine wpS_of_wp (wp_skip ?_)
  cases c₀
  simp_all [bodyPostS, results, Tryz.results134]

theorem catch_err_rows (p q : Addr) (x y : Value) (e : Int) (older : List PanicEntry) (w : World) (hp : w.cell? p = some x) (hpz : w.frozen? p = false) (hq : w.cell? q = some y) (hqz : w.frozen? q = false) (hpq : p.block ≠ q.block) :
    CallsD Tryz.prog 134 #[.pointer (some p), .pointer (some q)] (.panicking ({ v := .iface 30 (.int .i64 e), recovered := false } :: older)) w fun r u' w' =>
      r = .returned (.tuple #[]) ∧ u' = .panicking ({ v := .iface 30 (.int .i64 e), recovered := true } :: older) ∧ w' = (w.setCell p (.slice none 0 0)).setCell q (.int .i64 e) := by
  have hta := assert_errno e
  have hq2 : (w.setCell p (.slice none 0 0)).cell? q = some y := by rw [World.cell?_setCell_other _ _ _ _ (fun h => hpq (by rw [h]))]; exact hq
  have hq3 : (w.setCell p (.slice none 0 0)).frozen? q = false := by rw [World.frozen?_setCell]; exact hqz
  refine callsD_of_wpS Tryz.func134 rfl fun c₀ cs hu => ?_
  apply wpS_seq
  apply wpS_region
  simp [wpOpsS, go_sem, recoverD, hu, Tryz.ntmps134, Exit.thenS]
  apply wpS_seq
  apply wpS_region
  simp [wpOpsS, go_sem, Exit.thenS]
  refine wpS_cond (t := true) (by simp [Act.eval, Array.replicate]) ?_
  simp only [if_true]
  refine wpS_of_wp ?_
  simp only [Array.replicate_succ, Array.replicate_zero, List.push_toArray, List.nil_append, List.cons_append]
  go_wp2
  simp [bodyPostS, results, Tryz.results134]

set_option maxRecDepth 100000
set_option maxHeartbeats 1000000
theorem tries_rows (a : A) (vs vf ve : Value) (g : Nat) (lb : Array Value) (w : World) (hen : ∀ args w, (callFunc g args).run Tryz.prog w = .ok (.enter g args) w) (hfa : FaAt w w.heap.size a vs vf ve) (hsh : Short a)
    (R : Ending → World → Prop) (hR : ∀ r W, R r W → (∃ A n c, r = .returned (.slice A n c)) ∨ ∃ e, r = .panicked (errPanic e))
    (hdoes : a.ok = true → ∀ W b, Below w.heap.size w W → Wk W b a vs vf ve → Calls Tryz.prog g (#[pw b] ++ lb) W (fun r W' => R r W' ∧ Below W.heap.size W W')) :
    Calls Tryz.prog 78 #[vA a vs vf ve, .func (.func g) #[] lb] w (fun r w' => Below w.heap.size w w' ∧
      ((a.ok = false ∧ r = .returned (.tuple #[.slice none 0 0, .int .i64 260])) ∨ (a.ok = true ∧ ∃ r0 W0, R r0 W0 ∧ Below w.heap.size w W0 ∧ Stored 45 W0 w' ∧ ((∃ v, r0 = .returned v ∧ r = .returned (.tuple #[v, .int .i64 0])) ∨ ∃ e, r0 = .panicked (errPanic e) ∧ r = .returned (.tuple #[.slice none 0 0, .int .i64 e]))))) := by
  have hmf : ∀ (fn : Fn) (first cap : Array Value) (w : World), (Instr.makeFunc fn first cap).run Tryz.prog w = .ok (.func fn first cap) w := fun _ _ _ _ => rfl
  obtain ⟨As, cs, rfl, _⟩ := id hfa.s
  obtain ⟨Af, cf, rfl, _⟩ := id hfa.f
  obtain ⟨Ae, ce, rfl, _⟩ := id hfa.e
  unfold vA
  obtain ⟨W1, hW1⟩ : ∃ W1, w.alloc (.cells #[.int .i64 a.states, .slice As a.start.length cs, .slice Af a.final.length cf, .slice Ae a.edges.length ce] 25) = W1 := ⟨_, rfl⟩
  obtain ⟨W2, hW2⟩ : ∃ W2, W1.alloc (.cells #[.slice none 0 0] 45) = W2 := ⟨_, rfl⟩
  obtain ⟨W3, hW3⟩ : ∃ W3, W2.alloc (.cells #[.int .i64 0] 30) = W3 := ⟨_, rfl⟩
  have d1 : Below w.heap.size w W1 := hW1 ▸ alloc1 w _
  have d2 : Below W1.heap.size W1 W2 := hW2 ▸ alloc1 W1 _
  have d3 : Below W2.heap.size W2 W3 := hW3 ▸ alloc1 W2 _
  have dw : Below w.heap.size w W3 := below_next d1 (below_next d2 d3)
  have z1 : W1.heap.size = w.heap.size + 1 := by rw [← hW1]; simp
  have z2 : W2.heap.size = W1.heap.size + 1 := by rw [← hW2]; simp
  have z3 : W3.heap.size = W2.heap.size + 1 := by rw [← hW3]; simp
  have b1 : W3.heap[w.heap.size]? = some (.cells #[.int .i64 a.states, .slice As a.start.length cs, .slice Af a.final.length cf, .slice Ae a.edges.length ce] 25 (0, 0)) := by
    rw [d3.block _ (by omega), d2.block _ (by omega), ← hW1]; exact heap_alloc_new w _
  have b2 : W3.heap[W1.heap.size]? = some (.cells #[.slice none 0 0] 45 (0, 0)) := by
    rw [d3.block _ (by omega), ← hW2]; exact heap_alloc_new W1 _
  have b3 : W3.heap[W2.heap.size]? = some (.cells #[.int .i64 0] 30 (0, 0)) := by rw [← hW3]; exact heap_alloc_new W2 _
  have hck := check_ok a _ _ _ W3 (hfa.below dw dw.size) hsh
  unfold vA at hck
  have e0 := cell_at b1 0; have e1 := cell_at b1 1; have e2 := cell_at b1 2; have e3 := cell_at b1 3
  simp only [List.getElem?_toArray, List.getElem?_cons_zero, List.getElem?_cons_succ] at e0 e1 e2 e3
  have HZ := Lib.hid (And.intro z1 (And.intro z2 z3))
  have HFA := Lib.hid hfa
  clear z1 z2 z3 hfa
  cases hok : a.ok with
  | false =>
    rw [hok] at hck
    have hfe : faErr false = 260 := rfl
    rw [hfe] at hck
    clear hfe hok hdoes
    go_enter_defers Tryz.func78, Tryz.ntmps78
    go_wp2_with first
      | (go_at_call 35; refine hck.mono ?_; rintro e w4 ⟨rfl, d4⟩)
      | (go_at_call 124; refine (need_no _ _).mono ?_; rintro e w5 ⟨rfl, rfl⟩)
    have hz := HZ.out
    have q2 := (d4.block _ (Array.getElem?_eq_some_iff.1 b2).1).trans b2
    have q3 := (d4.block _ (Array.getElem?_eq_some_iff.1 b3).1).trans b3
    have c2 := cell_at q2 0
    have c3 := cell_at q3 0
    simp only [List.getElem?_toArray, List.getElem?_cons_zero] at c2 c3
    obtain ⟨r1, r2⟩ := two_cells (x := .slice none 0 0) (y := .int .i64 260) c2 c3 (by omega)
    refine leaves_cons (f := 134) (args := #[pw W1.heap.size, pw W2.heap.size]) (by simp) (by simp [go_sem]) ?_
    refine (catch_err_rows ⟨W1.heap.size, 0, none⟩ ⟨W2.heap.size, 0, none⟩ _ _ 260 [] _ c2 (free_at q2 0) c3 (free_at q3 0) (by show W1.heap.size ≠ W2.heap.size; omega)).mono ?_
    rintro e u' w'' ⟨rfl, rfl, rfl⟩
    have hfin : Below w.heap.size w ((w5.setCell ⟨W1.heap.size, 0, none⟩ (.slice none 0 0)).setCell ⟨W2.heap.size, 0, none⟩ (.int .i64 260)) :=
      (((below_next dw d4).setCell (p := ⟨W1.heap.size, 0, none⟩) (by show w.heap.size ≤ W1.heap.size; omega) _).setCell (p := ⟨W2.heap.size, 0, none⟩) (by show w.heap.size ≤ W2.heap.size; omega) _)
    simp [Leaves, settle, results, Tryz.results78, go_sem, r1, r2]
    exact hfin
  | true =>
    rw [hok] at hck
    have hfe : faErr true = 0 := rfl
    rw [hfe] at hck
    have hdo := hdoes hok
    clear hfe hdoes
    have hlw := (Array.getElem?_eq_some_iff.1 b1).1
    go_enter_defers Tryz.func78, Tryz.ntmps78
    go_wp2_with first
      | (go_at_call 35; refine hck.mono ?_; rintro e w4 ⟨rfl, d4⟩; have f0 := (d4.cell (p := ⟨w.heap.size, 0, none⟩) hlw).trans e0; have f1 := (d4.cell (p := ⟨w.heap.size, 1, none⟩) hlw).trans e1; have f2 := (d4.cell (p := ⟨w.heap.size, 2, none⟩) hlw).trans e2; have f3 := (d4.cell (p := ⟨w.heap.size, 3, none⟩) hlw).trans e3)
      | (go_at_call 124; refine (need_ok _ _).mono ?_; rintro e w5 ⟨rfl, rfl⟩)
    obtain ⟨W6, hW6⟩ : ∃ W6, w5.alloc (.cells #[.int .i64 a.states, .slice As a.start.length cs, .slice Af a.final.length cf, .slice Ae a.edges.length ce] 141) = W6 := ⟨_, rfl⟩
    rw [hW6]
    have d6 : Below w5.heap.size w5 W6 := hW6 ▸ alloc1 w5 _
    have d36 : Below W3.heap.size W3 W6 := below_next d4 d6
    have dw6 := below_next dw d36
    have n6 : ∀ j, W6.cell? ⟨w5.heap.size, j, none⟩ = _ := fun j => hW6 ▸ cell_new w5 _ _ j
    have hwk : Wk W6 w5.heap.size a (.slice As a.start.length cs) (.slice Af a.final.length cf) (.slice Ae a.edges.length ce) :=
      ⟨by rw [← hW6]; simp, n6 0, n6 1, n6 2, n6 3, HFA.out.below dw6 dw6.size⟩
    refine (hdo W6 w5.heap.size dw6 hwk).mono ?_
    rintro r w7 ⟨hRr, d7⟩
    have hz := HZ.out
    have d37 := below_next d36 d7
    have dw7 := below_next dw d37
    have q2 := (d37.block _ (Array.getElem?_eq_some_iff.1 b2).1).trans b2
    have q3 := (d37.block _ (Array.getElem?_eq_some_iff.1 b3).1).trans b3
    have c2 := cell_at q2 0
    have c3 := cell_at q3 0
    simp only [List.getElem?_toArray, List.getElem?_cons_zero] at c2 c3
    have g2 := free_at q2 0
    have g3 := free_at q3 0
    have hsto := fun (x y : Value) => (⟨W1.heap.size, W2.heap.size, x, y, rfl, ⟨_, _, q2⟩, _, _, q3⟩ : ∃ (p q : Nat) (x' y' : Value), (w7.setCell ⟨W1.heap.size, 0, none⟩ x).setCell ⟨W2.heap.size, 0, none⟩ y = (w7.setCell ⟨p, 0, none⟩ x').setCell ⟨q, 0, none⟩ y' ∧ (∃ cs z, w7.heap[p]? = some (.cells cs 45 z)) ∧ ∃ cs z, w7.heap[q]? = some (.cells cs 30 z))
    have hfin := fun (x y : Value) => (dw7.setCell (p := ⟨W1.heap.size, 0, none⟩) (by show w.heap.size ≤ W1.heap.size; omega) x).setCell (p := ⟨W2.heap.size, 0, none⟩) (by show w.heap.size ≤ W2.heap.size; omega) y
    have htc := fun (x y : Value) => two_cells (x := x) (y := y) c2 c3 (by omega)
    have hne : ¬ W1.heap.size = W2.heap.size := by omega
    have HX := Lib.hid (And.intro hRr (And.intro dw7 (And.intro hsto hfin)))
    have hRc := hR r w7 hRr
    clear hRr hR hsto hfin hdo hck hz
    rcases hRc with ⟨A7, n7, c7, rfl⟩ | ⟨e, rfl⟩
    · obtain ⟨r1, r2⟩ := htc (.slice A7 n7 c7) (.int .i64 0)
      have c4 : (w7.setCell ⟨W1.heap.size, 0, none⟩ (.slice A7 n7 c7)).cell? ⟨W2.heap.size, 0, none⟩ = some (.int .i64 0) := by
        rw [World.cell?_setCell_other _ _ _ _ (fun h => hne (by injection h))]; exact c3
      clear htc
      go_wp2
      refine leaves_cons (f := 134) (args := #[pw W1.heap.size, pw W2.heap.size]) (by simp) (by simp [go_sem]) ?_
      refine (catch_idle_rows ⟨W1.heap.size, 0, none⟩ ⟨W2.heap.size, 0, none⟩ _).mono ?_
      rintro e' u' w'' ⟨rfl, rfl, rfl⟩
      obtain ⟨hRr, dw7, hsto, hfin⟩ := HX.out
      simp [Leaves, settle, results, Tryz.results78, go_sem, r1, r2]
      exact ⟨hfin _ _, _, w7, hRr, dw7, ⟨hsto _ _⟩, .inl rfl⟩
    · obtain ⟨r1, r2⟩ := htc (.slice none 0 0) (.int .i64 e)
      clear htc
      go_wp2
      refine leaves_cons (f := 134) (args := #[pw W1.heap.size, pw W2.heap.size]) (by simp) (by simp [go_sem]) ?_
      refine (catch_err_rows ⟨W1.heap.size, 0, none⟩ ⟨W2.heap.size, 0, none⟩ _ _ e [] _ c2 g2 c3 g3 hne).mono ?_
      rintro e' u' w'' ⟨rfl, rfl, rfl⟩
      obtain ⟨hRr, dw7, hsto, hfin⟩ := HX.out
      simp [Leaves, settle, results, Tryz.results78, go_sem, r1, r2]
      exact ⟨hfin _ _, _, w7, hRr, dw7, ⟨hsto _ _⟩, .inr rfl⟩
end Go.Proofs.YtakldmbbmefnbaaGreat
/- walk.Closure. -/
namespace Go.Proofs.YtakldmbbmefnbaaGreat
open Go.RowKit Go.Sort Go.Proofs
set_option maxRecDepth 100000
set_option maxHeartbeats 1000000

/-- Not too great an automaton. -/
structure Small (a : A) : Prop where
  n : a.states ≤ 1000
  short : Short a
theorem Small.fit {a : A} (h : Small a) (ho : a.ok = true) : Fit a := ⟨ho, h.n, h.short.s, h.short.f, h.short.e⟩

theorem Own.stored {α : Type} {enc : α → List Value} {size : Nat} {e T : TypeId} {W w' : World} {base : Nat} {v : Value} {xs : List α} (h : Own enc size e W base v xs) (hs : Stored T W w') (h1 : e ≠ T) (h2 : e ≠ 30) : Own enc size e w' base v xs := by
  obtain ⟨p, q, x, y, rfl, ⟨cs, z, hp⟩, cs2, z2, hq⟩ := hs.ex
  have o1 := h.setCell (p := ⟨p, 0, none⟩) (own_ne h hp h1) x
  exact o1.setCell (p := ⟨q, 0, none⟩) (own_ne h hq h2) y

/-- What a function that hands back numbers and an error hands back. -/
def IntsEnd (w w' : World) (r : Ending) : Except Int (List Int) → Prop
  | .ok l => ∃ v, r = .returned (.tuple #[v, .int .i64 0]) ∧ Own encI 1 3 w' w.heap.size v l
  | .error e => r = .returned (.tuple #[.slice none 0 0, .int .i64 e])

theorem IntsEnd.form {w w' : World} {r : Ending} {out : Except Int (List Int)} (h : IntsEnd w w' r out) : ∃ A n c e, r = .returned (.tuple #[.slice A n c, .int .i64 e]) := by
  cases out with
  | ok l =>
    obtain ⟨v, rfl, ho⟩ := h
    obtain ⟨A, c, rfl, _⟩ := ho.form
    exact ⟨_, _, _, _, rfl⟩
  | error e => exact ⟨_, _, _, _, h⟩
theorem IntsEnd.below {w w' w'' : World} {r : Ending} {out : Except Int (List Int)} (h : IntsEnd w w' r out) (hb : Below w'.heap.size w' w'') : IntsEnd w w'' r out := by
  cases out with
  | ok l =>
    obtain ⟨v, rfl, ho⟩ := h
    exact ⟨v, rfl, ho.below hb⟩
  | error e => exact h

/-- How what is tried ends. -/
def DoesEnd (w w' : World) (r : Ending) : Except Int (List Int) → Prop
  | .ok l => ∃ v, r = .returned v ∧ Own encI 1 3 w' w.heap.size v l
  | .error e => r = .panicked (errPanic e)

theorem tries_ints_end (a : A) (vs vf ve : Value) (g : Nat) (lb : Array Value) (w0 w : World) (h0 : w0.heap.size ≤ w.heap.size) (hen : ∀ args w, (callFunc g args).run Tryz.prog w = .ok (.enter g args) w) (hfa : FaAt w w.heap.size a vs vf ve) (hsh : Short a) (out : Except Int (List Int))
    (hdoes : a.ok = true → ∀ W b, Below w.heap.size w W → Wk W b a vs vf ve → Calls Tryz.prog g (#[pw b] ++ lb) W (fun r W' => DoesEnd W W' r out ∧ Below W.heap.size W W')) :
    Calls Tryz.prog 63 #[vA a vs vf ve, .func (.func g) #[] lb] w (fun r w' => IntsEnd w0 w' r (if a.ok = true then out else .error 260) ∧ Below w.heap.size w w') := by
  refine (tries_ints a vs vf ve g lb w hen hfa hsh (fun r W => ∃ W1, DoesEnd W1 W r out ∧ w0.heap.size ≤ W1.heap.size) ?_ ?_).mono ?_
  · rintro r W ⟨W1, h, _⟩
    cases out with
    | ok l =>
      obtain ⟨v, rfl, ho⟩ := h
      obtain ⟨A, c, rfl, _⟩ := ho.form
      exact .inl ⟨_, _, _, rfl⟩
    | error e => exact .inr ⟨_, h⟩
  · intro hok W b hW hk
    exact (hdoes hok W b hW hk).mono (fun r W' h => ⟨⟨W, h.1, Nat.le_trans h0 hW.size⟩, h.2⟩)
  · rintro r w' ⟨hb, h⟩
    refine ⟨?_, hb⟩
    rcases h with ⟨hok, rfl⟩ | ⟨hok, r0, W0, ⟨W1, hd, hw1⟩, _, hst, hr⟩
    · rw [hok]; rfl
    · rw [if_pos hok]
      cases out with
      | ok l =>
        obtain ⟨v, rfl, ho⟩ := hd
        rcases hr with ⟨v', h1, rfl⟩ | ⟨e, h1, _⟩
        · cases h1
          exact ⟨v, rfl, (ho.stored hst (by decide) (by decide)).lower hw1⟩
        · cases h1
      | error e =>
        have hd' : r0 = .panicked (errPanic e) := hd
        rcases hr with ⟨v', h1, _⟩ | ⟨e', h1, rfl⟩
        · rw [hd'] at h1; cases h1
        · rw [hd'] at h1
          have : e = e' := by simp [errPanic] at h1; exact h1
          subst this
          rfl

noncomputable def A.doClosure (a : A) (l : List Int) : Except Int (List Int) := if l.all (inB a.states) = true then .ok (a.clo l) else .error 2
theorem closure1_ok (b bs : Nat) (a : A) (vs vf ve vl : Value) (l : List Int) (w : World) (hk : Wk w b a vs vf ve) (ha : Fit a) (hc : w.cell? ⟨bs, 0, none⟩ = some vl) (hl : Ints w w.heap.size vl l) (hll : l.length ≤ 1000000) :
    Calls Tryz.prog 64 #[pw b, pw bs] w (fun r w' => DoesEnd w w' r (a.doClosure l) ∧ Below w.heap.size w w') := by
  have hth := there_ok b a vs vf ve vl l w hk hl hll
  obtain ⟨A0, c, rfl, _⟩ := id hl
  have hlt := World.block_lt_of_cell? _ _ hc
  unfold A.doClosure
  cases hin : l.all (inB a.states) with
  | true =>
    rw [hin] at hth
    have hne : needEnd true 2 = .returned (.tuple #[]) := rfl
    rw [hne] at hth
    have hcl := fun W (h : Below w.heap.size w W) => closure_ok b a vs vf ve _ l W (hk.below h) ha (hl.below h h.size) hin hll
    generalize a.clo l = cur at *
    clear hne hin hk hl
    go_enter Tryz.func64, Tryz.ntmps64
    go_wp2_with first
      | (go_at_call 65; refine hth.mono ?_; rintro e w1 ⟨rfl, d1⟩; have hc1 := (d1.cell (p := ⟨bs, 0, none⟩) hlt).trans hc)
      | (go_at_call 66; refine (hcl _ d1).mono ?_; rintro e w2 ⟨v2, rfl, ho2, d2⟩; obtain ⟨A2, c2, rfl, hle2⟩ := ho2.form)
    go_ret
    exact ⟨⟨_, rfl, ho2.lower d1.size⟩, below_next d1 d2⟩
  | false =>
    rw [hin] at hth
    have hne : needEnd false 2 = .panicked (errPanic 2) := rfl
    rw [hne] at hth
    clear hne hin hk hl
    go_enter Tryz.func64, Tryz.ntmps64
    go_wp2_with (go_at_call 65; refine hth.mono ?_; rintro e w1 ⟨rfl, d1⟩)
    exact ⟨rfl, rfl, d1⟩

theorem Closure_ok (a : A) (vs vf ve vl : Value) (l : List Int) (w : World) (hfa : FaAt w w.heap.size a vs vf ve) (hs : Small a) (hl : Ints w w.heap.size vl l) (hll : l.length ≤ 1000000) :
    Calls Tryz.prog 17 #[vA a vs vf ve, vl] w (fun r w' => IntsEnd w w' r (if a.ok = true then a.doClosure l else .error 260) ∧ Below w.heap.size w w') := by
  obtain ⟨As, cs, rfl, _⟩ := id hfa.s
  obtain ⟨Af, cf, rfl, _⟩ := id hfa.f
  obtain ⟨Ae, ce, rfl, _⟩ := id hfa.e
  obtain ⟨A0, c, rfl, _⟩ := id hl
  obtain ⟨W1, hW1⟩ : ∃ W1, w.alloc (.cells #[.int .i64 a.states, .slice As a.start.length cs, .slice Af a.final.length cf, .slice Ae a.edges.length ce] 25) = W1 := ⟨_, rfl⟩
  obtain ⟨W2, hW2⟩ : ∃ W2, W1.alloc (.cells #[.slice A0 l.length c] 22) = W2 := ⟨_, rfl⟩
  have d1 : Below w.heap.size w W1 := hW1 ▸ alloc1 w _
  have d2 : Below W1.heap.size W1 W2 := hW2 ▸ alloc1 W1 _
  have dw := below_next d1 d2
  have n1 : ∀ j, W1.cell? ⟨w.heap.size, j, none⟩ = _ := fun j => hW1 ▸ cell_new w _ _ j
  have hlt : w.heap.size < W1.heap.size := by rw [← hW1]; simp
  have e0 := (d2.cell (p := ⟨w.heap.size, 0, none⟩) hlt).trans (n1 0)
  have e1 := (d2.cell (p := ⟨w.heap.size, 1, none⟩) hlt).trans (n1 1)
  have e2 := (d2.cell (p := ⟨w.heap.size, 2, none⟩) hlt).trans (n1 2)
  have e3 := (d2.cell (p := ⟨w.heap.size, 3, none⟩) hlt).trans (n1 3)
  simp only [List.getElem?_toArray, List.getElem?_cons_zero, List.getElem?_cons_succ] at e0 e1 e2 e3
  have q1 : W2.cell? ⟨W1.heap.size, 0, none⟩ = some (.slice A0 l.length c) := by rw [← hW2, cell_new]; rfl
  have htr := tries_ints_end a _ _ _ 64 #[pw W1.heap.size] w W2 dw.size Tryz.call64 (hfa.below dw dw.size) hs.short (a.doClosure l)
    (fun hok W b hW hk => closure1_ok b W1.heap.size a _ _ _ _ l W hk (hs.fit hok) ((hW.cell (World.block_lt_of_cell? _ _ q1)).trans q1) (hl.below (below_next dw hW) (below_next dw hW).size) hll)
  unfold vA at htr ⊢
  generalize hout : (if a.ok = true then a.doClosure l else .error 260) = out at *
  clear hfa hl n1 hlt hout
  go_enter Tryz.func17, Tryz.ntmps17
  go_wp2_with (go_at_call 63; refine htr.mono ?_; rintro r w3 ⟨hE, d3⟩; obtain ⟨A5, n5, c5, e5, rfl⟩ := hE.form)
  refine bodyPost_ret (results_tmp2 rfl _ _ _) rfl ?_
  exact ⟨hE, below_next dw d3⟩
end Go.Proofs.YtakldmbbmefnbaaGreat
/- walk.Reach, Alive, Live. -/
namespace Go.Proofs.YtakldmbbmefnbaaGreat
open Go.RowKit Go.Sort Go.Proofs
set_option maxRecDepth 100000
set_option maxHeartbeats 1000000

noncomputable def A.doReach (a : A) (l : List Int) : Except Int (List Int) := if l.all (inB a.states) = true then .ok (a.reach l) else .error 2
theorem reach1_ok (b bs : Nat) (a : A) (vs vf ve vl : Value) (l : List Int) (w : World) (hk : Wk w b a vs vf ve) (ha : Fit a) (hc : w.cell? ⟨bs, 0, none⟩ = some vl) (hl : Ints w w.heap.size vl l) (hll : l.length ≤ 1000000) :
    Calls Tryz.prog 67 #[pw b, pw bs] w (fun r w' => DoesEnd w w' r (a.doReach l) ∧ Below w.heap.size w w') := by
  have hth := there_ok b a vs vf ve vl l w hk hl hll
  obtain ⟨A0, c, rfl, _⟩ := id hl
  have hlt := World.block_lt_of_cell? _ _ hc
  unfold A.doReach
  cases hin : l.all (inB a.states) with
  | true =>
    rw [hin] at hth
    have hne : needEnd true 2 = .returned (.tuple #[]) := rfl
    rw [hne] at hth
    have hcl := fun W (h : Below w.heap.size w W) => reach_ok b a vs vf ve _ l W (hk.below h) ha (hl.below h h.size) hin hll
    generalize a.reach l = cur at *
    clear hne hin hk hl
    go_enter Tryz.func67, Tryz.ntmps67
    go_wp2_with first
      | (go_at_call 65; refine hth.mono ?_; rintro e w1 ⟨rfl, d1⟩; have hc1 := (d1.cell (p := ⟨bs, 0, none⟩) hlt).trans hc)
      | (go_at_call 68; refine (hcl _ d1).mono ?_; rintro e w2 ⟨v2, rfl, ho2, d2⟩; obtain ⟨A2, c2, rfl, hle2⟩ := ho2.form)
    go_ret
    exact ⟨⟨_, rfl, ho2.lower d1.size⟩, below_next d1 d2⟩
  | false =>
    rw [hin] at hth
    have hne : needEnd false 2 = .panicked (errPanic 2) := rfl
    rw [hne] at hth
    clear hne hin hk hl
    go_enter Tryz.func67, Tryz.ntmps67
    go_wp2_with (go_at_call 65; refine hth.mono ?_; rintro e w1 ⟨rfl, d1⟩)
    exact ⟨rfl, rfl, d1⟩

theorem Reach_ok (a : A) (vs vf ve vl : Value) (l : List Int) (w : World) (hfa : FaAt w w.heap.size a vs vf ve) (hs : Small a) (hl : Ints w w.heap.size vl l) (hll : l.length ≤ 1000000) :
    Calls Tryz.prog 18 #[vA a vs vf ve, vl] w (fun r w' => IntsEnd w w' r (if a.ok = true then a.doReach l else .error 260) ∧ Below w.heap.size w w') := by
  obtain ⟨As, cs, rfl, _⟩ := id hfa.s
  obtain ⟨Af, cf, rfl, _⟩ := id hfa.f
  obtain ⟨Ae, ce, rfl, _⟩ := id hfa.e
  obtain ⟨A0, c, rfl, _⟩ := id hl
  obtain ⟨W1, hW1⟩ : ∃ W1, w.alloc (.cells #[.int .i64 a.states, .slice As a.start.length cs, .slice Af a.final.length cf, .slice Ae a.edges.length ce] 25) = W1 := ⟨_, rfl⟩
  obtain ⟨W2, hW2⟩ : ∃ W2, W1.alloc (.cells #[.slice A0 l.length c] 22) = W2 := ⟨_, rfl⟩
  have d1 : Below w.heap.size w W1 := hW1 ▸ alloc1 w _
  have d2 : Below W1.heap.size W1 W2 := hW2 ▸ alloc1 W1 _
  have dw := below_next d1 d2
  have n1 : ∀ j, W1.cell? ⟨w.heap.size, j, none⟩ = _ := fun j => hW1 ▸ cell_new w _ _ j
  have hlt : w.heap.size < W1.heap.size := by rw [← hW1]; simp
  have e0 := (d2.cell (p := ⟨w.heap.size, 0, none⟩) hlt).trans (n1 0)
  have e1 := (d2.cell (p := ⟨w.heap.size, 1, none⟩) hlt).trans (n1 1)
  have e2 := (d2.cell (p := ⟨w.heap.size, 2, none⟩) hlt).trans (n1 2)
  have e3 := (d2.cell (p := ⟨w.heap.size, 3, none⟩) hlt).trans (n1 3)
  simp only [List.getElem?_toArray, List.getElem?_cons_zero, List.getElem?_cons_succ] at e0 e1 e2 e3
  have q1 : W2.cell? ⟨W1.heap.size, 0, none⟩ = some (.slice A0 l.length c) := by rw [← hW2, cell_new]; rfl
  have htr := tries_ints_end a _ _ _ 67 #[pw W1.heap.size] w W2 dw.size Tryz.call67 (hfa.below dw dw.size) hs.short (a.doReach l)
    (fun hok W b hW hk => reach1_ok b W1.heap.size a _ _ _ _ l W hk (hs.fit hok) ((hW.cell (World.block_lt_of_cell? _ _ q1)).trans q1) (hl.below (below_next dw hW) (below_next dw hW).size) hll)
  unfold vA at htr ⊢
  generalize hout : (if a.ok = true then a.doReach l else .error 260) = out at *
  clear hfa hl n1 hlt hout
  go_enter Tryz.func18, Tryz.ntmps18
  go_wp2_with (go_at_call 63; refine htr.mono ?_; rintro r w3 ⟨hE, d3⟩; obtain ⟨A5, n5, c5, e5, rfl⟩ := hE.form)
  refine bodyPost_ret (results_tmp2 rfl _ _ _) rfl ?_
  exact ⟨hE, below_next dw d3⟩

theorem alive1_ok (b : Nat) (a : A) (vs vf ve : Value) (w : World) (hk : Wk w b a vs vf ve) (ha : Fit a) :
    Calls Tryz.prog 70 #[pw b] w (fun r w' => DoesEnd w w' r (.ok a.alive) ∧ Below w.heap.size w w') := by
  have hal := alive_ok b a vs vf ve w hk ha
  clear hk
  unfold DoesEnd
  generalize a.alive = cur at *
  go_enter Tryz.func70, Tryz.ntmps70
  go_wp2_with (go_at_call 71; refine hal.mono ?_; rintro e w1 ⟨v1, rfl, ho1, hb1⟩; obtain ⟨A1, c1, rfl, hle1⟩ := ho1.form)
  go_ret
  exact ⟨⟨_, rfl, ho1⟩, hb1⟩

theorem Alive_ok (a : A) (vs vf ve : Value) (w : World) (hfa : FaAt w w.heap.size a vs vf ve) (hs : Small a) :
    Calls Tryz.prog 19 #[vA a vs vf ve] w (fun r w' => IntsEnd w w' r (if a.ok = true then .ok a.alive else .error 260) ∧ Below w.heap.size w w') := by
  obtain ⟨As, cs, rfl, _⟩ := id hfa.s
  obtain ⟨Af, cf, rfl, _⟩ := id hfa.f
  obtain ⟨Ae, ce, rfl, _⟩ := id hfa.e
  obtain ⟨W1, hW1⟩ : ∃ W1, w.alloc (.cells #[.int .i64 a.states, .slice As a.start.length cs, .slice Af a.final.length cf, .slice Ae a.edges.length ce] 25) = W1 := ⟨_, rfl⟩
  have d1 : Below w.heap.size w W1 := hW1 ▸ alloc1 w _
  have n1 : ∀ j, W1.cell? ⟨w.heap.size, j, none⟩ = _ := fun j => hW1 ▸ cell_new w _ _ j
  have e0 := n1 0; have e1 := n1 1; have e2 := n1 2; have e3 := n1 3
  simp only [List.getElem?_toArray, List.getElem?_cons_zero, List.getElem?_cons_succ] at e0 e1 e2 e3
  have htr := tries_ints_end a _ _ _ 70 #[] w W1 d1.size Tryz.call70 (hfa.below d1 d1.size) hs.short (.ok a.alive)
    (fun hok W b hW hk => alive1_ok b a _ _ _ W hk (hs.fit hok))
  unfold vA at htr ⊢
  generalize hout : (if a.ok = true then Except.ok a.alive else Except.error (260 : Int)) = out at *
  clear hfa n1 hout
  go_enter Tryz.func19, Tryz.ntmps19
  go_wp2_with (go_at_call 63; refine htr.mono ?_; rintro r w3 ⟨hE, d3⟩; obtain ⟨A5, n5, c5, e5, rfl⟩ := hE.form)
  refine bodyPost_ret (results_tmp2 rfl _ _ _) rfl ?_
  exact ⟨hE, below_next d1 d3⟩

theorem live1_ok (b : Nat) (a : A) (vs vf ve : Value) (w : World) (hk : Wk w b a vs vf ve) (ha : Fit a) :
    Calls Tryz.prog 72 #[pw b] w (fun r w' => DoesEnd w w' r (.ok a.live) ∧ Below w.heap.size w w') := by
  have hal := live_ok b a vs vf ve w hk ha
  clear hk
  unfold DoesEnd
  generalize a.live = cur at *
  go_enter Tryz.func72, Tryz.ntmps72
  go_wp2_with (go_at_call 73; refine hal.mono ?_; rintro e w1 ⟨v1, rfl, ho1, hb1⟩; obtain ⟨A1, c1, rfl, hle1⟩ := ho1.form)
  go_ret
  exact ⟨⟨_, rfl, ho1⟩, hb1⟩

theorem Live_ok (a : A) (vs vf ve : Value) (w : World) (hfa : FaAt w w.heap.size a vs vf ve) (hs : Small a) :
    Calls Tryz.prog 20 #[vA a vs vf ve] w (fun r w' => IntsEnd w w' r (if a.ok = true then .ok a.live else .error 260) ∧ Below w.heap.size w w') := by
  obtain ⟨As, cs, rfl, _⟩ := id hfa.s
  obtain ⟨Af, cf, rfl, _⟩ := id hfa.f
  obtain ⟨Ae, ce, rfl, _⟩ := id hfa.e
  obtain ⟨W1, hW1⟩ : ∃ W1, w.alloc (.cells #[.int .i64 a.states, .slice As a.start.length cs, .slice Af a.final.length cf, .slice Ae a.edges.length ce] 25) = W1 := ⟨_, rfl⟩
  have d1 : Below w.heap.size w W1 := hW1 ▸ alloc1 w _
  have n1 : ∀ j, W1.cell? ⟨w.heap.size, j, none⟩ = _ := fun j => hW1 ▸ cell_new w _ _ j
  have e0 := n1 0; have e1 := n1 1; have e2 := n1 2; have e3 := n1 3
  simp only [List.getElem?_toArray, List.getElem?_cons_zero, List.getElem?_cons_succ] at e0 e1 e2 e3
  have htr := tries_ints_end a _ _ _ 72 #[] w W1 d1.size Tryz.call72 (hfa.below d1 d1.size) hs.short (.ok a.live)
    (fun hok W b hW hk => live1_ok b a _ _ _ W hk (hs.fit hok))
  unfold vA at htr ⊢
  generalize hout : (if a.ok = true then Except.ok a.live else Except.error (260 : Int)) = out at *
  clear hfa n1 hout
  go_enter Tryz.func20, Tryz.ntmps20
  go_wp2_with (go_at_call 63; refine htr.mono ?_; rintro r w3 ⟨hE, d3⟩; obtain ⟨A5, n5, c5, e5, rfl⟩ := hE.form)
  refine bodyPost_ret (results_tmp2 rfl _ _ _) rfl ?_
  exact ⟨hE, below_next d1 d3⟩
end Go.Proofs.YtakldmbbmefnbaaGreat
/- walk.Step. -/
namespace Go.Proofs.YtakldmbbmefnbaaGreat
open Go.RowKit Go.Sort Go.Proofs
set_option maxRecDepth 100000
set_option maxHeartbeats 1000000

noncomputable def A.doStep (a : A) (l : List Int) (b : Nat) : Except Int (List Int) := if l.all (inB a.states) = true then .ok (a.step l b) else .error 2

theorem stepf_ok (b bs bb : Nat) (a : A) (vs vf ve vl : Value) (l : List Int) (by_ : Nat) (hby : by_ < 256) (w : World) (hk : Wk w b a vs vf ve) (ha : Fit a) (hc : w.cell? ⟨bs, 0, none⟩ = some vl) (hcb : w.cell? ⟨bb, 0, none⟩ = some (.int .u8 by_)) (hl : Ints w w.heap.size vl l) (hll : l.length ≤ 1000000) :
    Calls Tryz.prog 75 #[pw b, pw bs, pw bb] w (fun r w' => DoesEnd w w' r (a.doStep l by_) ∧ Below w.heap.size w w') := by
  have hth := there_ok b a vs vf ve vl l w hk hl hll
  obtain ⟨A0, c, rfl, _⟩ := id hl
  have hlt := World.block_lt_of_cell? _ _ hc
  have hltb := World.block_lt_of_cell? _ _ hcb
  unfold A.doStep
  cases hin : l.all (inB a.states) with
  | true =>
    rw [hin] at hth
    have hne : needEnd true 2 = .returned (.tuple #[]) := rfl
    rw [hne] at hth
    have hcl := fun W (h : Below w.heap.size w W) => step_ok b a vs vf ve _ l by_ W (hk.below h) ha (hl.below h h.size) hin hll hby
    generalize a.step l by_ = cur at *
    clear hne hin hk hl
    go_enter Tryz.func75, Tryz.ntmps75
    go_wp2_with first
      | (go_at_call 65; refine hth.mono ?_; rintro e w1 ⟨rfl, d1⟩; have hc1 := (d1.cell (p := ⟨bs, 0, none⟩) hlt).trans hc; have hc2 := (d1.cell (p := ⟨bb, 0, none⟩) hltb).trans hcb)
      | (go_at_call 76; refine (hcl _ d1).mono ?_; rintro e w2 ⟨v2, rfl, ho2, d2⟩; obtain ⟨A2, c2, rfl, hle2⟩ := ho2.form)
    go_ret
    exact ⟨⟨_, rfl, ho2.lower d1.size⟩, below_next d1 d2⟩
  | false =>
    rw [hin] at hth
    have hne : needEnd false 2 = .panicked (errPanic 2) := rfl
    rw [hne] at hth
    clear hne hin hk hl
    go_enter Tryz.func75, Tryz.ntmps75
    go_wp2_with (go_at_call 65; refine hth.mono ?_; rintro e w1 ⟨rfl, d1⟩)
    exact ⟨rfl, rfl, d1⟩

theorem Step_ok (a : A) (vs vf ve vl : Value) (l : List Int) (by_ : Nat) (hby : by_ < 256) (w : World) (hfa : FaAt w w.heap.size a vs vf ve) (hs : Small a) (hl : Ints w w.heap.size vl l) (hll : l.length ≤ 1000000) :
    Calls Tryz.prog 23 #[vA a vs vf ve, .int .u8 by_, vl] w (fun r w' => IntsEnd w w' r (if a.ok = true then a.doStep l by_ else .error 260) ∧ Below w.heap.size w w') := by
  obtain ⟨As, cs, rfl, _⟩ := id hfa.s
  obtain ⟨Af, cf, rfl, _⟩ := id hfa.f
  obtain ⟨Ae, ce, rfl, _⟩ := id hfa.e
  obtain ⟨A0, c, rfl, _⟩ := id hl
  obtain ⟨W1, hW1⟩ : ∃ W1, w.alloc (.cells #[.int .i64 a.states, .slice As a.start.length cs, .slice Af a.final.length cf, .slice Ae a.edges.length ce] 25) = W1 := ⟨_, rfl⟩
  obtain ⟨W2, hW2⟩ : ∃ W2, W1.alloc (.cells #[.int .u8 by_] 5) = W2 := ⟨_, rfl⟩
  obtain ⟨W3, hW3⟩ : ∃ W3, W2.alloc (.cells #[.slice A0 l.length c] 22) = W3 := ⟨_, rfl⟩
  have d1 : Below w.heap.size w W1 := hW1 ▸ alloc1 w _
  have d2 : Below W1.heap.size W1 W2 := hW2 ▸ alloc1 W1 _
  have d3 : Below W2.heap.size W2 W3 := hW3 ▸ alloc1 W2 _
  have d13 := below_next d2 d3
  have dw := below_next d1 d13
  have n1 : ∀ j, W1.cell? ⟨w.heap.size, j, none⟩ = _ := fun j => hW1 ▸ cell_new w _ _ j
  have hlt : w.heap.size < W1.heap.size := by rw [← hW1]; simp
  have hlt2 : W1.heap.size < W2.heap.size := by rw [← hW2]; simp
  have e0 := (d13.cell (p := ⟨w.heap.size, 0, none⟩) hlt).trans (n1 0)
  have e1 := (d13.cell (p := ⟨w.heap.size, 1, none⟩) hlt).trans (n1 1)
  have e2 := (d13.cell (p := ⟨w.heap.size, 2, none⟩) hlt).trans (n1 2)
  have e3 := (d13.cell (p := ⟨w.heap.size, 3, none⟩) hlt).trans (n1 3)
  simp only [List.getElem?_toArray, List.getElem?_cons_zero, List.getElem?_cons_succ] at e0 e1 e2 e3
  have q1 : W3.cell? ⟨W2.heap.size, 0, none⟩ = some (.slice A0 l.length c) := by rw [← hW3, cell_new]; rfl
  have q2 : W3.cell? ⟨W1.heap.size, 0, none⟩ = some (.int .u8 by_) := by rw [d3.cell hlt2, ← hW2, cell_new]; rfl
  have htr := tries_ints_end a _ _ _ 75 #[pw W2.heap.size, pw W1.heap.size] w W3 dw.size Tryz.call75 (hfa.below dw dw.size) hs.short (a.doStep l by_)
    (fun hok W b hW hk => stepf_ok b W2.heap.size W1.heap.size a _ _ _ _ l by_ hby W hk (hs.fit hok) ((hW.cell (World.block_lt_of_cell? _ _ q1)).trans q1) ((hW.cell (World.block_lt_of_cell? _ _ q2)).trans q2) (hl.below (below_next dw hW) (below_next dw hW).size) hll)
  unfold vA at htr ⊢
  generalize hout : (if a.ok = true then a.doStep l by_ else .error 260) = out at *
  clear hfa hl n1 hlt hlt2 hout
  go_enter Tryz.func23, Tryz.ntmps23
  go_wp2_with (go_at_call 63; refine htr.mono ?_; rintro r w3 ⟨hE, d4⟩; obtain ⟨A5, n5, c5, e5, rfl⟩ := hE.form)
  refine bodyPost_ret (results_tmp2 rfl _ _ _) rfl ?_
  exact ⟨hE, below_next dw d4⟩
end Go.Proofs.YtakldmbbmefnbaaGreat
/- walk.Trace, Takes, First. -/
namespace Go.Proofs.YtakldmbbmefnbaaGreat
open Go.RowKit Go.Sort Go.Proofs
set_option maxRecDepth 100000
set_option maxHeartbeats 1000000

theorem trace1_ok (b bs : Nat) (a : A) (vs vf ve : Value) (word : List UInt8) (w : World) (hk : Wk w b a vs vf ve) (ha : Fit a) (hc : w.cell? ⟨bs, 0, none⟩ = some (encStr word)) (hw : word.length ≤ 1000000) :
    Calls Tryz.prog 79 #[pw b, pw bs] w (fun r w' => (∃ v rs, r = .returned v ∧ Own encR 1 22 w' w.heap.size v rs ∧ Rws w' w.heap.size rs (a.trace word word.length)) ∧ Below w.heap.size w w') := by
  have htr := trace_ok b a vs vf ve word w hk ha hw
  generalize a.trace word word.length = ls at *
  clear hk
  go_enter Tryz.func79, Tryz.ntmps79
  go_wp2_with (go_at_call 80; refine htr.mono ?_; rintro e w1 ⟨v1, rs, rfl, ho1, hr1, hb1⟩; obtain ⟨A1, c1, rfl, hle1⟩ := ho1.form)
  go_ret
  exact ⟨⟨_, rs, rfl, ho1, hr1⟩, hb1⟩

theorem takes1_ok (b bs : Nat) (a : A) (vs vf ve : Value) (word : List UInt8) (w : World) (hk : Wk w b a vs vf ve) (ha : Fit a) (hc : w.cell? ⟨bs, 0, none⟩ = some (encStr word)) (hw : word.length ≤ 1000000) :
    Calls Tryz.prog 82 #[pw b, pw bs] w (fun r w' => r = .returned (.bool (a.ends (a.after word))) ∧ Below w.heap.size w w') := by
  have htr := trace_ok b a vs vf ve word w hk ha hw
  have hlast : ∀ h : word.length < (a.trace word word.length).length, (a.trace word word.length)[word.length] = a.after word := fun h => by rw [A.trace_get, List.take_length]
  have hlen := a.trace_len word word.length
  have haf := A.after_in ha word
  have hen := fun (W : World) (v : Value) (h : Wk W b a vs vf ve) (h2 : Ints W W.heap.size v (a.after word)) => ends_ok b a vs vf ve v (a.after word) W h ha h2 (by omega)
  generalize a.trace word word.length = ls at *
  generalize a.ends (a.after word) = res at *
  generalize a.after word = cur at *
  go_enter Tryz.func82, Tryz.ntmps82
  go_wp2_with (go_at_call 80; refine htr.mono ?_; rintro e w1 ⟨v1, rs, rfl, ho1, hr1, hb1⟩; have hrl : rs.length = word.length + 1 := hr1.1.trans hlen; obtain ⟨bo, co, rfl, _, hcells⟩ := ho1.at_R (by omega); have hcell := hcells word.length (by omega); have hown := hr1.2 word.length (by omega) (by omega); rw [hlast] at hown; have hen1 := hen w1 _ (hk.below hb1) (hown.sl encI_len); obtain ⟨A5, c5, hr5, hle5⟩ := hown.form; rw [hr5] at hcell hen1; rw [hrl])
  refine hen1.mono ?_
  rintro e w2 ⟨rfl, d2⟩
  go_wp2
  go_ret
  exact ⟨rfl, below_next hb1 d2⟩

theorem calls_first1 (b : Nat) (w : World) {R : Ending → Prop} (h : Calls Tryz.prog 87 #[pw b] w (fun r w' => R r ∧ Below w.heap.size w w')) (hR : ∀ r, R r → (∃ s, r = .returned (.string s)) ∨ ∃ e, r = .panicked (errPanic e)) :
    Calls Tryz.prog 86 #[pw b] w (fun r w' => R r ∧ Below w.heap.size w w') := by
  have h1 : Calls Tryz.prog 87 #[pw b] w (fun r w' => ((∃ s, r = .returned (.string s)) ∨ ∃ e, r = .panicked (errPanic e)) ∧ R r ∧ Below w.heap.size w w') := h.mono (fun r w' hh => ⟨hR r hh.1, hh⟩)
  clear h hR
  go_enter Tryz.func86, Tryz.ntmps86
  go_wp2_with fail
  refine h1.mono ?_
  rintro r w1 ⟨hs, hR, hb⟩
  rcases hs with ⟨s, rfl⟩ | ⟨e, rfl⟩
  · have HR := Lib.hid hR
    clear hR
    go_wp2
    go_ret
    exact ⟨HR.out, hb⟩
  · have HR := Lib.hid hR
    clear hR
    go_wp2
    exact ⟨rfl, HR.out, hb⟩

theorem first1_ok (b : Nat) (a : A) (vs vf ve : Value) (w : World) (hk : Wk w b a vs vf ve) (ha : Fit a) :
    Calls Tryz.prog 86 #[pw b] w (fun r w' => FirstEnd a r ∧ Below w.heap.size w w') := by
  refine calls_first1 b w (first_ok b a vs vf ve w hk ha) (fun r h => ?_)
  rcases h with ⟨word, rfl, _⟩ | ⟨rfl, _⟩
  · exact .inl ⟨_, rfl⟩
  · exact .inr ⟨_, rfl⟩

/-- What Takes hands back. -/
def TakesEnd (r : Ending) (ok res : Bool) : Prop := if ok = true then r = .returned (.tuple #[.bool res, .int .i64 0]) else r = .returned (.tuple #[.bool false, .int .i64 260])
/-- What Trace hands back. -/
def TraceEnd (w w' : World) (r : Ending) (ok : Bool) (ls : List (List Int)) : Prop :=
  if ok = true then ∃ v rs, r = .returned (.tuple #[v, .int .i64 0]) ∧ Own encR 1 22 w' w.heap.size v rs ∧ Rws w' w.heap.size rs ls else r = .returned (.tuple #[.slice none 0 0, .int .i64 260])
/-- What First hands back. -/
def FirstOut (a : A) (r : Ending) : Prop :=
  (a.ok = false ∧ r = .returned (.tuple #[.string ⟨#[]⟩, .int .i64 260])) ∨ (a.ok = true ∧ ((∃ word : List UInt8, r = .returned (.tuple #[encStr word, .int .i64 0]) ∧ IsFirst a a.states.toNat word) ∨ (r = .returned (.tuple #[.string ⟨#[]⟩, .int .i64 4]) ∧ ∀ w, ¬ a.takes w)))

theorem Rws.stored {T : TypeId} {W w' : World} {base : Nat} {rs : List Ro} {ls : List (List Int)} (h : Rws W base rs ls) (hs : Stored T W w') (h1 : 3 ≠ T) : Rws w' base rs ls :=
  ⟨h.1, fun i h2 h3 => (h.2 i h2 h3).stored hs h1 (by decide)⟩


theorem Trace_ok (a : A) (vs vf ve : Value) (word : List UInt8) (w : World) (hfa : FaAt w w.heap.size a vs vf ve) (hs : Small a) (hwl : word.length ≤ 1000000) :
    Calls Tryz.prog 25 #[vA a vs vf ve, encStr word] w (fun r w' => TraceEnd w w' r a.ok (a.trace word word.length) ∧ Below w.heap.size w w') := by
  obtain ⟨As, cs, rfl, _⟩ := id hfa.s
  obtain ⟨Af, cf, rfl, _⟩ := id hfa.f
  obtain ⟨Ae, ce, rfl, _⟩ := id hfa.e
  obtain ⟨W1, hW1⟩ : ∃ W1, w.alloc (.cells #[.int .i64 a.states, .slice As a.start.length cs, .slice Af a.final.length cf, .slice Ae a.edges.length ce] 25) = W1 := ⟨_, rfl⟩
  obtain ⟨W2, hW2⟩ : ∃ W2, W1.alloc (.cells #[encStr word] 9) = W2 := ⟨_, rfl⟩
  have d1 : Below w.heap.size w W1 := hW1 ▸ alloc1 w _
  have d2 : Below W1.heap.size W1 W2 := hW2 ▸ alloc1 W1 _
  have dw := below_next d1 d2
  have n1 : ∀ j, W1.cell? ⟨w.heap.size, j, none⟩ = _ := fun j => hW1 ▸ cell_new w _ _ j
  have hlt : w.heap.size < W1.heap.size := by rw [← hW1]; simp
  have e0 := (d2.cell (p := ⟨w.heap.size, 0, none⟩) hlt).trans (n1 0)
  have e1 := (d2.cell (p := ⟨w.heap.size, 1, none⟩) hlt).trans (n1 1)
  have e2 := (d2.cell (p := ⟨w.heap.size, 2, none⟩) hlt).trans (n1 2)
  have e3 := (d2.cell (p := ⟨w.heap.size, 3, none⟩) hlt).trans (n1 3)
  simp only [List.getElem?_toArray, List.getElem?_cons_zero, List.getElem?_cons_succ] at e0 e1 e2 e3
  have q1 : W2.cell? ⟨W1.heap.size, 0, none⟩ = some (encStr word) := by rw [← hW2, cell_new]; rfl
  have htr := tries_rows a _ _ _ 79 #[pw W1.heap.size] W2 Tryz.call79 (hfa.below dw dw.size) hs.short
    (fun r W => ∃ W1, w.heap.size ≤ W1.heap.size ∧ ∃ v rs, r = .returned v ∧ Own encR 1 22 W W1.heap.size v rs ∧ Rws W W1.heap.size rs (a.trace word word.length))
    (fun r W h => by
      obtain ⟨_, _, v, rs, rfl, ho, _⟩ := h
      obtain ⟨A1, c1, rfl, _⟩ := ho.form
      exact .inl ⟨_, _, _, rfl⟩)
    (fun hok W b hW hk => (trace1_ok b W1.heap.size a _ _ _ word W hk (hs.fit hok) ((hW.cell (World.block_lt_of_cell? _ _ q1)).trans q1) hwl).mono (fun r w' h => ⟨⟨W, (below_next dw hW).size, h.1⟩, h.2⟩))
  have htr2 : Calls Tryz.prog 78 #[vA a (.slice As a.start.length cs) (.slice Af a.final.length cf) (.slice Ae a.edges.length ce), .func (.func 79) #[] #[pw W1.heap.size]] W2 (fun r w' => TraceEnd w w' r a.ok (a.trace word word.length) ∧ (∃ A n c e, r = .returned (.tuple #[.slice A n c, .int .i64 e])) ∧ Below W2.heap.size W2 w') := by
    refine htr.mono ?_
    rintro r w' ⟨hb, h⟩
    rcases h with ⟨hok, rfl⟩ | ⟨hok, r0, W0, ⟨W9, hw9, v, rs, rfl, ho, hrs⟩, _, hst, hr⟩
    · refine ⟨?_, ⟨_, _, _, _, rfl⟩, hb⟩
      unfold TraceEnd
      rw [if_neg (by rw [hok]; decide)]
    · rcases hr with ⟨v', h1, rfl⟩ | ⟨e, h1, _⟩
      · cases h1
        obtain ⟨A1, c1, rfl, _⟩ := ho.form
        refine ⟨?_, ⟨_, _, _, _, rfl⟩, hb⟩
        unfold TraceEnd
        rw [if_pos hok]
        exact ⟨_, rs, rfl, (ho.stored hst (by decide) (by decide)).lower hw9, (hrs.stored hst (by decide)).lower hw9⟩
      · cases h1
  unfold vA at htr2 ⊢
  clear hfa n1 hlt htr
  go_enter Tryz.func25, Tryz.ntmps25
  go_wp2_with (go_at_call 78; refine htr2.mono ?_; rintro r w3 ⟨hE, hF, d3⟩; obtain ⟨A5, n5, c5, e5, rfl⟩ := hF; have HE := Lib.hid hE; clear hE)
  refine bodyPost_ret (results_tmp2 rfl _ _ _) rfl ?_
  exact ⟨HE.out, below_next dw d3⟩

theorem Takes_ok (a : A) (vs vf ve : Value) (word : List UInt8) (w : World) (hfa : FaAt w w.heap.size a vs vf ve) (hs : Small a) (hwl : word.length ≤ 1000000) :
    Calls Tryz.prog 26 #[vA a vs vf ve, encStr word] w (fun r w' => TakesEnd r a.ok (a.ends (a.after word)) ∧ Below w.heap.size w w') := by
  obtain ⟨As, cs, rfl, _⟩ := id hfa.s
  obtain ⟨Af, cf, rfl, _⟩ := id hfa.f
  obtain ⟨Ae, ce, rfl, _⟩ := id hfa.e
  obtain ⟨W1, hW1⟩ : ∃ W1, w.alloc (.cells #[.int .i64 a.states, .slice As a.start.length cs, .slice Af a.final.length cf, .slice Ae a.edges.length ce] 25) = W1 := ⟨_, rfl⟩
  obtain ⟨W2, hW2⟩ : ∃ W2, W1.alloc (.cells #[encStr word] 9) = W2 := ⟨_, rfl⟩
  have d1 : Below w.heap.size w W1 := hW1 ▸ alloc1 w _
  have d2 : Below W1.heap.size W1 W2 := hW2 ▸ alloc1 W1 _
  have dw := below_next d1 d2
  have n1 : ∀ j, W1.cell? ⟨w.heap.size, j, none⟩ = _ := fun j => hW1 ▸ cell_new w _ _ j
  have hlt : w.heap.size < W1.heap.size := by rw [← hW1]; simp
  have e0 := (d2.cell (p := ⟨w.heap.size, 0, none⟩) hlt).trans (n1 0)
  have e1 := (d2.cell (p := ⟨w.heap.size, 1, none⟩) hlt).trans (n1 1)
  have e2 := (d2.cell (p := ⟨w.heap.size, 2, none⟩) hlt).trans (n1 2)
  have e3 := (d2.cell (p := ⟨w.heap.size, 3, none⟩) hlt).trans (n1 3)
  simp only [List.getElem?_toArray, List.getElem?_cons_zero, List.getElem?_cons_succ] at e0 e1 e2 e3
  have q1 : W2.cell? ⟨W1.heap.size, 0, none⟩ = some (encStr word) := by rw [← hW2, cell_new]; rfl
  have htr := tries_bool a _ _ _ 82 #[pw W1.heap.size] W2 Tryz.call82 (hfa.below dw dw.size) hs.short
    (fun r W => r = .returned (.bool (a.ends (a.after word))))
    (fun r W h => .inl ⟨_, h⟩)
    (fun hok W b hW hk => takes1_ok b W1.heap.size a _ _ _ word W hk (hs.fit hok) ((hW.cell (World.block_lt_of_cell? _ _ q1)).trans q1) hwl)
  have htr2 : Calls Tryz.prog 81 #[vA a (.slice As a.start.length cs) (.slice Af a.final.length cf) (.slice Ae a.edges.length ce), .func (.func 82) #[] #[pw W1.heap.size]] W2 (fun r w' => TakesEnd r a.ok (a.ends (a.after word)) ∧ (∃ b e, r = .returned (.tuple #[.bool b, .int .i64 e])) ∧ Below W2.heap.size W2 w') := by
    refine htr.mono ?_
    rintro r w' ⟨hb, h⟩
    rcases h with ⟨hok, rfl⟩ | ⟨hok, r0, W0, rfl, _, hst, hr⟩
    · refine ⟨?_, ⟨_, _, rfl⟩, hb⟩
      unfold TakesEnd
      rw [if_neg (by rw [hok]; decide)]
    · rcases hr with ⟨v', h1, rfl⟩ | ⟨e, h1, _⟩
      · cases h1
        refine ⟨?_, ⟨_, _, rfl⟩, hb⟩
        unfold TakesEnd
        rw [if_pos hok]
      · cases h1
  unfold vA at htr2 ⊢
  clear hfa n1 hlt htr
  go_enter Tryz.func26, Tryz.ntmps26
  go_wp2_with (go_at_call 81; refine htr2.mono ?_; rintro r w3 ⟨hE, hF, d3⟩; obtain ⟨b5, e5, rfl⟩ := hF; have HE := Lib.hid hE; clear hE)
  refine bodyPost_ret (results_tmp2 rfl _ _ _) rfl ?_
  exact ⟨HE.out, below_next dw d3⟩

end Go.Proofs.YtakldmbbmefnbaaGreat
/- walk.First. -/
namespace Go.Proofs.YtakldmbbmefnbaaGreat
open Go.RowKit Go.Sort Go.Proofs
set_option maxRecDepth 100000
set_option maxHeartbeats 1000000

theorem First_ok (a : A) (vs vf ve : Value) (w : World) (hfa : FaAt w w.heap.size a vs vf ve) (hs : Small a) :
    Calls Tryz.prog 31 #[vA a vs vf ve] w (fun r w' => FirstOut a r ∧ Below w.heap.size w w') := by
  obtain ⟨As, cs, rfl, _⟩ := id hfa.s
  obtain ⟨Af, cf, rfl, _⟩ := id hfa.f
  obtain ⟨Ae, ce, rfl, _⟩ := id hfa.e
  obtain ⟨W1, hW1⟩ : ∃ W1, w.alloc (.cells #[.int .i64 a.states, .slice As a.start.length cs, .slice Af a.final.length cf, .slice Ae a.edges.length ce] 25) = W1 := ⟨_, rfl⟩
  have d1 : Below w.heap.size w W1 := hW1 ▸ alloc1 w _
  have n1 : ∀ j, W1.cell? ⟨w.heap.size, j, none⟩ = _ := fun j => hW1 ▸ cell_new w _ _ j
  have e0 := n1 0; have e1 := n1 1; have e2 := n1 2; have e3 := n1 3
  simp only [List.getElem?_toArray, List.getElem?_cons_zero, List.getElem?_cons_succ] at e0 e1 e2 e3
  have htr := tries_strs a _ _ _ 86 #[] W1 Tryz.call86 (hfa.below d1 d1.size) hs.short
    (fun r _ => FirstEnd a r)
    (fun r W h => by
      rcases h with ⟨word, rfl, _⟩ | ⟨rfl, _⟩
      · exact .inl ⟨_, rfl⟩
      · exact .inr ⟨_, rfl⟩)
    (fun hok W b hW hk => first1_ok b a _ _ _ W hk (hs.fit hok))
  have htr2 : Calls Tryz.prog 85 #[vA a (.slice As a.start.length cs) (.slice Af a.final.length cf) (.slice Ae a.edges.length ce), .func (.func 86) #[] #[]] W1 (fun r w' => FirstOut a r ∧ (∃ s e, r = .returned (.tuple #[.string s, .int .i64 e])) ∧ Below W1.heap.size W1 w') := by
    refine htr.mono ?_
    rintro r w' ⟨hb, h⟩
    rcases h with ⟨hok, rfl⟩ | ⟨hok, r0, W0, hF, _, hst, hr⟩
    · exact ⟨.inl ⟨hok, rfl⟩, ⟨_, _, rfl⟩, hb⟩
    · rcases hF with ⟨word, rfl, hf⟩ | ⟨rfl, hf⟩
      · rcases hr with ⟨v', h1, rfl⟩ | ⟨e, h1, _⟩
        · cases h1
          exact ⟨.inr ⟨hok, .inl ⟨word, rfl, hf⟩⟩, ⟨_, _, rfl⟩, hb⟩
        · cases h1
      · rcases hr with ⟨v', h1, _⟩ | ⟨e, h1, rfl⟩
        · cases h1
        · have : (4 : Int) = e := by simp [errPanic] at h1; exact h1
          subst this
          exact ⟨.inr ⟨hok, .inr ⟨rfl, hf⟩⟩, ⟨_, _, rfl⟩, hb⟩
  unfold vA at htr2 ⊢
  clear hfa n1 htr
  go_enter Tryz.func31, Tryz.ntmps31
  go_wp2_with (go_at_call 85; refine htr2.mono ?_; rintro r w3 ⟨hE, hF, d3⟩; obtain ⟨s5, e5, rfl⟩ := hF; have HE := Lib.hid hE; clear hE)
  refine bodyPost_ret (results_tmp2 rfl _ _ _) rfl ?_
  exact ⟨HE.out, below_next d1 d3⟩
end Go.Proofs.YtakldmbbmefnbaaGreat
/- Marks that sweeps over pairs spread, as often as there are marks; no program in sight. -/
namespace Go.Proofs.YtakldmbbmefnbaaGreat

def Ble : List Bool → List Bool → Prop
  | [], [] => True
  | a :: m, b :: m' => (a = true → b = true) ∧ Ble m m'
  | _, _ => False

theorem Ble.refl : ∀ m : List Bool, Ble m m
  | [] => trivial
  | _ :: m => ⟨id, Ble.refl m⟩
theorem Ble.trans : ∀ {a b c : List Bool}, Ble a b → Ble b c → Ble a c
  | [], [], [], _, _ => trivial
  | _ :: _, _ :: _, _ :: _, h, k => ⟨fun x => k.1 (h.1 x), h.2.trans k.2⟩
theorem Ble.set : ∀ (m : List Bool) (i : Nat), Ble m (m.set i true)
  | [], _ => by simp [Ble]
  | _ :: m, 0 => ⟨fun _ => rfl, Ble.refl m⟩
  | _ :: m, i + 1 => ⟨id, Ble.set m i⟩
theorem Ble.get : ∀ {a b : List Bool}, Ble a b → ∀ i, a.getD i false = true → b.getD i false = true
  | [], [], _, i, h => by simp at h
  | x :: a, y :: b, k, 0, h => by simp at h ⊢; exact k.1 h
  | x :: a, y :: b, k, i + 1, h => by
    simp only [List.getD_cons_succ] at h ⊢
    exact k.2.get i h

def mcnt : List Bool → Nat
  | [] => 0
  | a :: m => (if a then 1 else 0) + mcnt m
theorem mcnt_len : ∀ m : List Bool, mcnt m ≤ m.length
  | [] => Nat.le_refl 0
  | a :: m => by
    have := mcnt_len m
    unfold mcnt
    rw [List.length_cons]
    split <;> omega
theorem mcnt_le : ∀ {a b : List Bool}, Ble a b → mcnt a ≤ mcnt b
  | [], [], _ => Nat.le_refl _
  | x :: a, y :: b, h => by
    have := mcnt_le h.2
    have h1 := h.1
    unfold mcnt
    cases x <;> cases y <;> simp_all <;> omega
theorem mcnt_eq : ∀ {a b : List Bool}, Ble a b → mcnt b ≤ mcnt a → a = b
  | [], [], _, _ => rfl
  | x :: a, y :: b, h, hc => by
    have h2 := mcnt_le h.2
    have h1 := h.1
    unfold mcnt at hc
    have hxy : x = y := by cases x <;> cases y <;> simp_all <;> omega
    subst hxy
    congr 1
    exact mcnt_eq h.2 (by omega)
theorem mcnt_all : ∀ {m : List Bool}, m.length ≤ mcnt m → ∀ i, i < m.length → m.getD i false = true
  | [], _, i, h => absurd h (Nat.not_lt_zero i)
  | a :: m, hc, i, h => by
    have h2 := mcnt_len m
    unfold mcnt at hc
    rw [List.length_cons] at hc h
    cases a with
    | false => simp at hc; omega
    | true =>
      cases i with
      | zero => rfl
      | succ i =>
        rw [List.getD_cons_succ]
        exact mcnt_all (by simp at hc; omega) i (by omega)

/-- One sweep over the pairs. -/
def sw (ps : List (Int × Int)) (m : List Bool) : List Bool := ps.foldl (fun m p => if m.getD p.1.toNat false then m.set p.2.toNat true else m) m
theorem sw_nil (m : List Bool) : sw [] m = m := rfl
theorem sw_snoc (ps : List (Int × Int)) (p : Int × Int) (m : List Bool) : sw (ps ++ [p]) m = if (sw ps m).getD p.1.toNat false then (sw ps m).set p.2.toNat true else sw ps m := by
  unfold sw; rw [List.foldl_append]; rfl
theorem sw_ble (ps : List (Int × Int)) : ∀ m, Ble m (sw ps m) := by
  induction ps with
  | nil => intro m; exact Ble.refl m
  | cons p ps ih =>
    intro m
    show Ble m (sw ps (if m.getD p.1.toNat false then m.set p.2.toNat true else m))
    refine Ble.trans ?_ (ih _)
    split
    · exact Ble.set m _
    · exact Ble.refl m
theorem sw_len (ps : List (Int × Int)) : ∀ m, (sw ps m).length = m.length := by
  induction ps with
  | nil => intro m; rfl
  | cons p ps ih =>
    intro m
    show (sw ps (if m.getD p.1.toNat false then m.set p.2.toNat true else m)).length = _
    rw [ih]
    split <;> simp

theorem getD_set_true (m : List Bool) (i : Nat) (h : i < m.length) : (m.set i true).getD i false = true := by simp [List.getD, h]
/-- What a sweep leaves as it was is closed. -/
theorem sw_fix {ps : List (Int × Int)} : ∀ {m : List Bool}, sw ps m = m → ∀ r s, (r, s) ∈ ps → s.toNat < m.length → m.getD r.toNat false = true → m.getD s.toNat false = true := by
  induction ps with
  | nil => intro m _ r s h; cases h
  | cons p ps ih =>
    intro m hm r s hp hs hr
    have h1 : sw ps (if m.getD p.1.toNat false then m.set p.2.toNat true else m) = m := hm
    have hb := sw_ble ps (if m.getD p.1.toNat false then m.set p.2.toNat true else m)
    rw [h1] at hb
    have heq : (if m.getD p.1.toNat false then m.set p.2.toNat true else m) = m := by
      refine mcnt_eq hb (mcnt_le ?_)
      split
      · exact Ble.set m _
      · exact Ble.refl m
    rcases List.mem_cons.1 hp with e | e
    · subst e
      rw [if_pos hr] at heq
      rw [← heq]
      exact getD_set_true m _ hs
    · rw [heq] at h1
      exact ih h1 r s e hs hr

/-- As many sweeps as told. -/
def sws (ps : List (Int × Int)) : Nat → List Bool → List Bool
  | 0, m => m
  | k + 1, m => sw ps (sws ps k m)
theorem sws_len (ps : List (Int × Int)) (m : List Bool) : ∀ k, (sws ps k m).length = m.length
  | 0 => rfl
  | k + 1 => by rw [sws, sw_len, sws_len ps m k]
theorem sws_ble (ps : List (Int × Int)) (m : List Bool) : ∀ k, Ble m (sws ps k m)
  | 0 => Ble.refl m
  | k + 1 => (sws_ble ps m k).trans (sw_ble ps _)
theorem sws_cnt (ps : List (Int × Int)) (m : List Bool) : ∀ k, sw ps (sws ps k m) = sws ps k m ∨ k ≤ mcnt (sws ps k m)
  | 0 => .inr (Nat.zero_le _)
  | k + 1 => by
    rcases sws_cnt ps m k with h | h
    · left
      rw [sws, h, h]
    · by_cases e : sw ps (sws ps k m) = sws ps k m
      · left
        rw [sws, e, e]
      · right
        have hb := sw_ble ps (sws ps k m)
        have : ¬ mcnt (sw ps (sws ps k m)) ≤ mcnt (sws ps k m) := fun hc => e (mcnt_eq hb hc).symm
        rw [sws]; omega
theorem sws_fix (ps : List (Int × Int)) (m : List Bool) : sw ps (sws ps m.length m) = sws ps m.length m := by
  rcases sws_cnt ps m m.length with h | h
  · exact h
  · have hb := sw_ble ps (sws ps m.length m)
    refine (mcnt_eq hb ?_).symm
    have h1 := mcnt_len (sw ps (sws ps m.length m))
    rw [sw_len, sws_len] at h1
    omega

/-- The numbers that are marked, rising. -/
def rs (m : List Bool) : List Int := ((List.range m.length).filter (fun i => m.getD i false)).map (fun i : Nat => (i : Int))
theorem mem_rs {m : List Bool} {s : Int} : s ∈ rs m ↔ 0 ≤ s ∧ m.getD s.toNat false = true := by
  unfold rs
  simp only [List.mem_map, List.mem_filter, List.mem_range]
  constructor
  · rintro ⟨i, ⟨_, h⟩, rfl⟩
    exact ⟨by omega, by simpa using h⟩
  · rintro ⟨h0, h⟩
    refine ⟨s.toNat, ⟨?_, h⟩, by omega⟩
    refine Classical.byContradiction fun hn => ?_
    rw [List.getD, List.getElem?_eq_none (by omega)] at h
    cases h
theorem rs_strict (m : List Bool) : Strict (rs m) := by
  unfold Strict rs
  rw [List.pairwise_map]
  exact (List.pairwise_lt_range.filter _).imp (fun h => by omega)

theorem sw_goes {ps0 : List (Int × Int)} {l : List Int} (hin : ∀ p ∈ ps0, 0 ≤ p.1 ∧ 0 ≤ p.2) : ∀ (ps : List (Int × Int)), (∀ p ∈ ps, p ∈ ps0) → ∀ m, (∀ i : Nat, m.getD i false = true → Goes ps0 l i) → ∀ i : Nat, (sw ps m).getD i false = true → Goes ps0 l i := by
  intro ps
  induction ps with
  | nil => intro _ m h; exact h
  | cons p ps ih =>
    intro hsub m h
    refine ih (fun q hq => hsub q (List.mem_cons_of_mem _ hq)) _ ?_
    intro i hi
    replace hi : (if m.getD p.1.toNat false then m.set p.2.toNat true else m).getD i false = true := hi
    split at hi
    · rename_i hp
      by_cases e : i = p.2.toNat
      · subst e
        have h1 := h _ hp
        have h2 := hin p (hsub p (by simp))
        rw [show ((p.1.toNat : Nat) : Int) = p.1 by omega] at h1
        rw [show ((p.2.toNat : Nat) : Int) = p.2 by omega]
        exact .step h1 (hsub p (by simp))
      · refine h i ?_
        rw [List.getD, List.getElem?_set_ne (fun h => e h.symm)] at hi
        exact hi
    · exact h i hi
theorem sws_goes {ps : List (Int × Int)} {l : List Int} (hin : ∀ p ∈ ps, 0 ≤ p.1 ∧ 0 ≤ p.2) {m : List Bool} (h : ∀ i : Nat, m.getD i false = true → Goes ps l i) : ∀ k (i : Nat), (sws ps k m).getD i false = true → Goes ps l i
  | 0 => h
  | k + 1 => sw_goes hin ps (fun _ hp => hp) _ (sws_goes hin h k)

/-- **As many sweeps as there are marks are enough.** -/
theorem sws_rs {ps : List (Int × Int)} {n : Nat} {m : List Bool} (hm : m.length = n) (hin : ∀ p ∈ ps, (0 ≤ p.1 ∧ p.1 < n) ∧ (0 ≤ p.2 ∧ p.2 < n)) : rs (sws ps n m) = cl n ps (rs m) := by
  subst hm
  refine strict_ext (rs_strict _) (cl_strict ..) fun s => ?_
  rw [mem_rs, mem_cl]
  constructor
  · rintro ⟨h0, h⟩
    have hl : s.toNat < m.length := by
      refine Classical.byContradiction fun hn => ?_
      rw [List.getD, List.getElem?_eq_none (by rw [sws_len]; omega)] at h
      cases h
    refine ⟨by omega, ?_⟩
    have := sws_goes (l := rs m) (fun p hp => ⟨(hin p hp).1.1, (hin p hp).2.1⟩) (m := m) (fun i hi => .start (mem_rs.2 ⟨by omega, by simpa using hi⟩)) m.length s.toNat h
    rwa [show ((s.toNat : Nat) : Int) = s by omega] at this
  · rintro ⟨⟨h0, h1⟩, hg⟩
    refine ⟨h0, ?_⟩
    clear h0 h1
    induction hg with
    | start h => exact (sws_ble ps m m.length).get _ (mem_rs.1 h).2
    | @step r s _ hp ih =>
      have := hin _ hp
      exact sw_fix (sws_fix ps m) r s hp (by rw [sws_len]; omega) ih

theorem rs_marks {n : Nat} {l : List Int} (hl : ∀ s ∈ l, 0 ≤ s ∧ s < n) (s : Int) : s ∈ rs (marks n l) ↔ s ∈ l := by
  rw [mem_rs]
  constructor
  · rintro ⟨h0, h⟩
    have hlt : s.toNat < n := by
      refine Classical.byContradiction fun hn => ?_
      rw [List.getD, List.getElem?_eq_none (by rw [marks_len]; omega)] at h
      cases h
    rw [List.getD, marks_get l hlt] at h
    simp at h
    rwa [show (max s 0) = s by omega] at h
  · intro h
    have := hl s h
    refine ⟨this.1, ?_⟩
    rw [List.getD, marks_get l (by omega), show ((s.toNat : Nat) : Int) = s by omega]
    simpa using h
theorem goes_same {ps : List (Int × Int)} {l l' : List Int} (h : ∀ s, s ∈ l ↔ s ∈ l') {s : Int} : Goes ps l s ↔ Goes ps l' s := by
  constructor
  · intro hg
    induction hg with
    | start hs => exact .start ((h _).1 hs)
    | step _ hp ih => exact .step ih hp
  · intro hg
    induction hg with
    | start hs => exact .start ((h _).2 hs)
    | step _ hp ih => exact .step ih hp
theorem cl_same {n : Nat} {ps : List (Int × Int)} {l l' : List Int} (h : ∀ s, s ∈ l ↔ s ∈ l') : cl n ps l = cl n ps l' := by
  refine strict_ext (cl_strict ..) (cl_strict ..) fun s => ?_
  rw [mem_cl, mem_cl, goes_same h]
end Go.Proofs.YtakldmbbmefnbaaGreat
/- the reference's words: marked, Rises, Has. -/
namespace Go.Proofs.YtakldmbbmefnbaaGreat
open Go.RowKit Go.Sort Go.Proofs
set_option maxRecDepth 100000
set_option maxHeartbeats 1000000

/-- A block of marks. -/
def BRow (w : World) (b : Nat) (m : List Bool) : Prop := w.heap[b]? = some (.cells (m.map Value.bool).toArray 4 (0, 0))
theorem BRow.cell {w : World} {b : Nat} {m : List Bool} (h : BRow w b m) (i : Nat) (hi : i < m.length) : w.cell? ⟨b, i, none⟩ = some (.bool (m.getD i false)) := by
  rw [cell_at h, List.getElem?_toArray, List.getElem?_map, List.getElem?_eq_getElem hi]
  simp [List.getD, hi]
theorem BRow.free {w : World} {b : Nat} {m : List Bool} (h : BRow w b m) (i : Nat) : w.frozen? ⟨b, i, none⟩ = false := free_at h i
theorem BRow.set {w : World} {b : Nat} {m : List Bool} (h : BRow w b m) (i : Nat) (x : Bool) : BRow (w.setCell ⟨b, i, none⟩ (.bool x)) b (m.set i x) := by
  have := heap_set h i (.bool x)
  unfold BRow
  rw [this]
  simp
theorem BRow.below {w w' : World} {b : Nat} {m : List Bool} (h : BRow w b m) (d : Below w.heap.size w w') : BRow w' b m := (d.block _ (Array.getElem?_eq_some_iff.1 h).1).trans h
theorem BRow.new (w : World) (n : Nat) : BRow (w.alloc (.cells (madeCells #[Value.bool false] n) 4)) w.heap.size (marks n []) := by
  unfold BRow
  rw [heap_alloc_new]
  have : (madeCells #[Value.bool false] n) = ((marks n []).map Value.bool).toArray := by
    apply Array.ext'
    simp [madeCells, marks]
    intro i _
    rw [Nat.mod_one]
    rfl
  rw [this]
theorem BRow.lt {w : World} {b : Nat} {m : List Bool} (h : BRow w b m) : b < w.heap.size := (Array.getElem?_eq_some_iff.1 h).1
theorem marks_add {n i : Nat} (ws : List Int) (h : i < n) : (marks n ws).set i true = marks n (ws ++ [(i : Int)]) := by
  apply List.ext_getElem?
  intro j
  rw [List.getElem?_set]
  by_cases hj : j < n
  · by_cases e : i = j
    · subst e
      rw [if_pos rfl, if_pos (by rw [marks_len]; exact h), marks_get _ h]
      simp
    · rw [if_neg e, marks_get _ hj, marks_get _ hj]
      have : ¬ ((j : Int) = (i : Int)) := by omega
      simp [this]
  · rw [List.getElem?_eq_none (by rw [marks_len]; omega), if_neg (fun e : i = j => hj (by omega)), List.getElem?_eq_none (by rw [marks_len]; omega)]

theorem rhas_ok (v : Value) (xs : List Int) (y : Int) (w : World) (h : Ints w w.heap.size v xs) (hn : xs.length ≤ 1000000) :
    Calls Tryz.prog 62 #[v, .int .i64 y] w (fun r w' => r = .returned (.bool (xs.any (fun x => y == x))) ∧ w' = w) := by
  obtain ⟨A0, c0, rfl, hr⟩ := id h
  clear h
  go_enter Tryz.func62, Tryz.ntmps62
  go_wp2
  go_loop [9] (fun i => ∃ k : Nat, k ≤ xs.length ∧ i = .int .i64 k ∧ (xs.take k).any (fun x => y == x) = false) (fun i => xs.length - (intOf i).toNat)
  case atStart => exact ⟨0, Nat.zero_le _, rfl, rfl⟩
  case round =>
    obtain ⟨k, hk, rfl, hno⟩ := hrel
    by_cases hlt : k < xs.length
    · obtain ⟨b0, o0, rfl, hb0, hc0⟩ := hr (by omega)
      have hcell := cell1 encI_eq hc0 hlt
      have hi2 : (k : Int) < xs.length := by omega
      by_cases e : xs[k] = y
      · have hres : xs.any (fun x => y == x) = true := List.any_eq_true.2 ⟨_, List.getElem_mem hlt, by simp [e]⟩
        have hee : (xs[k] == y) = true := by simpa using e
        have HR := Lib.hid hres
        clear hres hno e hr hc0
        generalize xs[k] = x at *
        go_wp2
        go_ret
        exact ⟨by rw [HR.out]; rfl, rfl⟩
      · have hee : (xs[k] == y) = false := by simpa using e
        have hnx : (xs.take (k + 1)).any (fun x => y == x) = false := by
          rw [List.take_succ_eq_append_getElem hlt, List.any_append, hno]
          simp
          exact fun h => e h.symm
        have HN := Lib.hid hnx
        clear hnx hno e hr hc0
        generalize xs[k] = x at *
        go_wp2
        go_round
        case rel => exact ⟨k + 1, by omega, by go_num, HN.out⟩
        case measure => simp [intOf]; omega
    · have : k = xs.length := by omega
      subst this
      rw [List.take_length] at hno
      have HR := Lib.hid hno
      clear hno hr
      go_wp2
      go_ret
      exact ⟨by rw [HR.out]; rfl, rfl⟩

theorem marked_ok (a : A) (vs vf ve vl : Value) (l : List Int) (n : Nat) (w : World) (hn : a.states = n) (hnn : n ≤ 1000) (hl : Ints w w.heap.size vl l) (hin : ∀ s ∈ l, 0 ≤ s ∧ s < n) (hll : l.length ≤ 1000000) (hv : ∃ A n c, vs = .slice A n c) (hv2 : ∃ A n c, vf = .slice A n c) (hv3 : ∃ A n c, ve = .slice A n c) :
    Calls Tryz.prog 60 #[vA a vs vf ve, vl] w (fun r w' => (∃ b, r = .returned (.slice (some ⟨b, 0, none⟩) n n) ∧ w.heap.size ≤ b ∧ BRow w' b (marks n l)) ∧ Below w.heap.size w w') := by
  obtain ⟨i2, hi2, hz2, hs2, hb2⟩ := info_parts info_bool
  obtain ⟨A0, c0, rfl, hr⟩ := id hl
  obtain ⟨As, ns, cs, rfl⟩ := hv
  obtain ⟨Af, nf, cf, rfl⟩ := hv2
  obtain ⟨Ae, ne, ce, rfl⟩ := hv3
  have hB1 : i2.bytes * n ≤ 281474976710656 := by rw [hb2]; omega
  have hN : n ≤ 4611686018427387904 := by omega
  obtain ⟨W1, hW1⟩ : ∃ W1, w.alloc (.cells #[.int .i64 (n : Nat), .slice As ns cs, .slice Af nf cf, .slice Ae ne ce] 25) = W1 := ⟨_, rfl⟩
  obtain ⟨W2, hW2⟩ : ∃ W2, W1.alloc (.cells (madeCells #[Value.bool false] n) 4) = W2 := ⟨_, rfl⟩
  have d1 : Below w.heap.size w W1 := hW1 ▸ alloc1 w _
  have d2 : Below W1.heap.size W1 W2 := hW2 ▸ alloc1 W1 _
  have b1 : W1.heap[w.heap.size]? = some (.cells #[.int .i64 (n : Nat), .slice As ns cs, .slice Af nf cf, .slice Ae ne ce] 25 (0, 0)) := by rw [← hW1]; exact heap_alloc_new w _
  have r0 : BRow W2 W1.heap.size (marks n []) := by rw [← hW2]; exact BRow.new W1 n
  have q0 := cell_at b1 0
  simp only [List.getElem?_toArray, List.getElem?_cons_zero] at q0
  have dw := below_next d1 d2
  have hz1 := d1.size
  unfold vA
  rw [hn]
  clear b1 hl
  go_enter Tryz.func60, Tryz.ntmps60
  go_wp2_with (at_make; refine wpList_make_z _ rfl _ _ 87 rfl _ i2 _ 1 Tryz.underlying87 hi2 hz2 hs2 n rfl rfl hB1 hN ?_)
  go_loopw [13] (fun i wr => ∃ k : Nat, k ≤ l.length ∧ i = .int .i64 k ∧ BRow wr W1.heap.size (marks n (l.take k)) ∧ Below w.heap.size w wr) (fun i _ => l.length - (intOf i).toNat)
  case atStart => exact ⟨0, Nat.zero_le _, rfl, r0, dw⟩
  case round =>
    obtain ⟨k, hk, rfl, hR, hb⟩ := hrel
    by_cases hlt : k < l.length
    · obtain ⟨b0, o0, rfl, hb0, hc0⟩ := hr (by omega)
      have hcell := (hb.cell (p := ⟨b0, o0 + k, none⟩) hb0).trans (cell1 encI_eq hc0 hlt)
      have hs := hin _ (List.getElem_mem hlt)
      obtain ⟨s, hsx⟩ : ∃ s : Nat, l[k] = s := ⟨l[k].toNat, by omega⟩
      rw [hsx] at hcell hs
      have hsn : s < n := by omega
      have hc := hR.cell s (by rw [marks_len]; exact hsn)
      have hf := hR.free s
      have hnx : (marks n (l.take k)).set s true = marks n (l.take (k + 1)) := by
        rw [marks_add _ hsn, List.take_succ_eq_append_getElem hlt, hsx]
      have hR2 := hR.set s true
      rw [hnx] at hR2
      have HR2 := Lib.hid hR2
      have hi2 : (k : Int) < l.length := by omega
      have hi3 : (s : Int) < n := by omega
      generalize (marks n (l.take k)).getD s false = old at *
      clear hnx hR hR2 hsx hr hc0 hs hin
      go_wp2
      go_roundw
      case rel => exact ⟨k + 1, by omega, by go_num, HR2.out, hb.setCell hz1 _⟩
      case measure => simp [intOf]; omega
    · have : k = l.length := by omega
      subst this
      rw [List.take_length] at hR
      clear hr hin
      go_wp2
      go_ret
      exact ⟨⟨_, rfl, hz1, hR⟩, hb⟩
end Go.Proofs.YtakldmbbmefnbaaGreat
/- the reference's words: Rises, Closure. -/
namespace Go.Proofs.YtakldmbbmefnbaaGreat
open Go.RowKit Go.Sort Go.Proofs
set_option maxRecDepth 100000
set_option maxHeartbeats 1000000

/-- The numbers below k that are marked, rising. -/
def rsk (m : List Bool) (k : Nat) : List Int := ((List.range k).filter (fun i => m.getD i false)).map (fun i : Nat => (i : Int))
theorem rsk_yes {m : List Bool} {k : Nat} (h : m.getD k false = true) : rsk m (k + 1) = rsk m k ++ [(k : Int)] := by
  unfold rsk
  rw [List.range_succ, List.filter_append, List.map_append, List.filter_cons_of_pos (p := fun i => m.getD i false) h]
  rfl
theorem rsk_no {m : List Bool} {k : Nat} (h : m.getD k false = false) : rsk m (k + 1) = rsk m k := by
  unfold rsk
  rw [List.range_succ, List.filter_append, List.map_append, List.filter_cons_of_neg (p := fun i => m.getD i false) (by simpa using h)]
  simp
theorem rsk_len (m : List Bool) (k : Nat) : (rsk m k).length ≤ k := by
  unfold rsk
  rw [List.length_map]
  have := List.length_filter_le (fun i => m.getD i false) (List.range k)
  rwa [List.length_range] at this

theorem rrises_ok (b : Nat) (m : List Bool) (n : Nat) (w : World) (hm : m.length = n) (hnn : n ≤ 1000) (hR : BRow w b m) :
    Calls Tryz.prog 61 #[.slice (some ⟨b, 0, none⟩) n n] w (fun r w' => ∃ v', r = .returned v' ∧ Own encI 1 3 w' w.heap.size v' (rs m) ∧ Below w.heap.size w w') := by
  obtain ⟨i0, hi, hz0, hz1, hz2⟩ := info_parts info_int
  have hrs : rs m = rsk m n := by unfold rs rsk; rw [hm]
  rw [hrs]
  go_enter Tryz.func61, Tryz.ntmps61
  go_wp2
  go_loopw [8, 3] (fun i v wr => ∃ (k : Nat) (A : Option Addr) (c : Nat), k ≤ n ∧ i = .int .i64 k ∧ v = .slice A (rsk m k).length c ∧ Own encI 1 3 wr w.heap.size (.slice A (rsk m k).length c) (rsk m k) ∧ Below w.heap.size w wr) (fun i _ _ => n - (intOf i).toNat)
  case atStart => exact ⟨0, none, 0, Nat.zero_le _, rfl, rfl, Own.nil none, Below.refl _ _⟩
  case round =>
    obtain ⟨k, A0, c0, hk, rfl, rfl, ho, hb⟩ := hrel
    by_cases hlt : k < n
    · have hc := (hR.below hb).cell k (by omega)
      have hi2 : (k : Int) < n := by omega
      have hlen := rsk_len m k
      cases hmk : m.getD k false with
      | true =>
        rw [hmk] at hc
        have hnx := rsk_yes hmk
        have hbyt : (4 * ((rsk m k).length + 1) + 4096) * 8 ≤ 140737488355328 := by omega
        have hwl2 : (rsk m k).length + 1 ≤ 4611686018427387904 := by omega
        have HN := Lib.hid hnx
        clear hnx hmk hR hrs
        generalize rsk m k = xs at *
        have hbs := hb.size
        go_wp2_with (at_builtin; refine wpList_append_my _ rfl (.tmp 14) (.tmp 16) 22 rfl encI_len encI_one 3 i0 _ Tryz.underlying22 hi hz0 hz1 hz2 rfl (by decide) (base := w.heap.size) rfl (xs := xs) (ho.below (alloc1 wr _)) rfl (ys := [(k : Int)]) (Sl_one (enc := encI) (size := 1) wr (k : Int) _ _) hbyt hwl2 (Nat.le_trans hbs (alloc1 wr _).size) ?_; intro v1 w1 hown1 hg1 hb1 hl1; obtain ⟨A1, cc1, rfl, hle1⟩ := hown1.form)
        go_roundw
        case rel =>
          refine ⟨k + 1, A1, cc1, by omega, by go_num, by rw [HN.out, List.length_append]; rfl, by rw [HN.out]; exact hown1, ?_⟩
          exact (hb.trans ((alloc1 wr _).mono hbs)).trans hl1
        case measure => simp [intOf]; omega
      | false =>
        rw [hmk] at hc
        have hnx := rsk_no hmk
        have HN := Lib.hid hnx
        clear hnx hmk hR hrs
        generalize rsk m k = xs at *
        go_wp2
        go_roundw
        case rel => exact ⟨k + 1, A0, c0, by omega, by go_num, by rw [HN.out], by rw [HN.out]; exact ho, hb⟩
        case measure => simp [intOf]; omega
    · have : k = n := by omega
      subst this
      clear hR hrs
      generalize hx : rsk m k = xs at *
      have HX := Lib.hid hx
      clear hx
      go_wp2
      go_ret
      exact ⟨.slice A0 xs.length c0, rfl, by rw [HX.out]; exact ho, hb⟩

/-- The pairs of the first edges. -/
def A.prs (a : A) (back : Bool) (p : E → Bool) (j : Nat) : List (Int × Int) := ((a.edges.take j).filter p).map (turned back)
theorem prs_all (a : A) (back : Bool) (p : E → Bool) : a.prs back p a.edges.length = a.pairs back p := by unfold A.prs A.pairs; rw [List.take_length]
theorem sw_edge (a : A) (back : Bool) (p : E → Bool) (m : List Bool) (j : Nat) (hj : j < a.edges.length) :
    sw (a.prs back p (j + 1)) m = if p a.edges[j] && (sw (a.prs back p j) m).getD (turned back a.edges[j]).1.toNat false then (sw (a.prs back p j) m).set (turned back a.edges[j]).2.toNat true else sw (a.prs back p j) m := by
  unfold A.prs
  rw [List.take_succ_eq_append_getElem hj, List.filter_append, List.map_append]
  cases hp : p a.edges[j] with
  | true =>
    rw [List.filter_cons_of_pos hp, List.filter_nil, List.map_cons, List.map_nil, sw_snoc]
    simp
  | false =>
    rw [List.filter_cons_of_neg (by rw [hp]; decide), List.filter_nil, List.map_nil, List.append_nil]
    simp

theorem four_new (w : World) (x0 x1 x2 x3 : Value) (t : TypeId) : (w.alloc (.cells #[x0, x1, x2, x3] t)).heap[w.heap.size]? = some (.cells #[x0, x1, x2, x3] t (0, 0)) := heap_alloc_new w _

theorem rclosure_ok (a : A) (vs vf ve vl : Value) (l : List Int) (w : World) (hfa : FaAt w w.heap.size a vs vf ve) (ha : Fit a) (hl : Ints w w.heap.size vl l) (hin : Inb a l) (hll : l.length ≤ 1000000) :
    Calls Tryz.prog 14 #[vA a vs vf ve, vl] w (fun r w' => ∃ v', r = .returned v' ∧ Own encI 1 3 w' w.heap.size v' (a.clo l) ∧ Below w.heap.size w w') := by
  obtain ⟨n, hn⟩ : ∃ n : Nat, a.states = n := ⟨a.states.toNat, by have := ha.ok; simp [A.ok] at this; omega⟩
  have hnn : n ≤ 1000 := by have := ha.n; omega
  have hin' : ∀ s ∈ l, 0 ≤ s ∧ s < n := fun s hs => by have := hin s hs; omega
  have heb : ∀ e ∈ a.edges, (0 ≤ e.src ∧ e.src < n) ∧ 0 ≤ e.dst ∧ e.dst < n := fun e he => by have := edge_in ha he; omega
  obtain ⟨As, cs, rfl, hs1⟩ := id hfa.s
  obtain ⟨Af, cf, rfl, hs2⟩ := id hfa.f
  obtain ⟨Ae, ce, rfl, hre⟩ := id hfa.e
  obtain ⟨A0, c0, rfl, hr⟩ := id hl
  have hel := ha.e
  obtain ⟨W1, hW1⟩ : ∃ W1, w.alloc (.cells #[.int .i64 (n : Nat), .slice As a.start.length cs, .slice Af a.final.length cf, .slice Ae a.edges.length ce] 25) = W1 := ⟨_, rfl⟩
  have d1 : Below w.heap.size w W1 := hW1 ▸ alloc1 w _
  have b1 : W1.heap[w.heap.size]? = some (.cells #[.int .i64 (n : Nat), .slice As a.start.length cs, .slice Af a.final.length cf, .slice Ae a.edges.length ce] 25 (0, 0)) := by rw [← hW1]; exact heap_alloc_new w _
  have hz1 := d1.size
  have hmk := marked_ok a (.slice As a.start.length cs) (.slice Af a.final.length cf) (.slice Ae a.edges.length ce) _ l n W1 hn hnn (hl.below d1 hz1) hin' hll ⟨_, _, _, rfl⟩ ⟨_, _, _, rfl⟩ ⟨_, _, _, rfl⟩
  have hfin : rs (sws (a.pairs false (fun e => e.free)) n (marks n l)) = a.clo l := by
    have h1 := sws_rs (ps := a.pairs false (fun e => e.free)) (n := n) (m := marks n l) (marks_len n l) (fun p hp => by
      unfold A.pairs at hp
      obtain ⟨e, he, rfl⟩ := List.mem_map.1 hp
      have := heb e (List.mem_filter.1 he).1
      simp [turned]; omega)
    rw [h1]
    unfold A.clo
    rw [hn, Int.toNat_natCast]
    exact cl_same (rs_marks hin')
  have q1 : W1.cell? ⟨w.heap.size, 0, none⟩ = some (.int .i64 (n : Nat)) := cell_at b1 0
  have q2 : W1.cell? ⟨w.heap.size, 1, none⟩ = some (.slice As a.start.length cs) := cell_at b1 1
  have q3 : W1.cell? ⟨w.heap.size, 2, none⟩ = some (.slice Af a.final.length cf) := cell_at b1 2
  have q4 : W1.cell? ⟨w.heap.size, 3, none⟩ = some (.slice Ae a.edges.length ce) := cell_at b1 3
  unfold vA at hmk ⊢
  rw [hn] at hmk ⊢
  have hlt1 : w.heap.size < W1.heap.size := by rw [← hW1]; simp
  have HF := Lib.hid (And.intro hfin (And.intro heb (And.intro hre hn)))
  clear hfin heb hre hn hfa hl hs1 hs2 hr hin hin' b1
  go_enter Tryz.func14, Tryz.ntmps14
  go_wp2_with fail
  refine hmk.mono ?_
  rintro e w2 ⟨⟨b, rfl, hb0, hR⟩, d2⟩
  have p1 := (d2.cell (p := ⟨w.heap.size, 0, none⟩) hlt1).trans q1
  have hml := marks_len n l
  have hR0 : BRow w2 b (sws (a.pairs false (fun e => e.free)) 0 (marks n l)) := hR
  clear hR hmk
  generalize marks n l = m0 at *
  go_wp2_with fail
  go_loopw [13] (fun i wr => ∃ k : Nat, k ≤ n ∧ i = .int .i64 k ∧ BRow wr b (sws (a.pairs false (fun e => e.free)) k m0) ∧ Below W1.heap.size W1 wr) (fun i _ => n - (intOf i).toNat)
  case atStart => exact ⟨0, Nat.zero_le _, rfl, hR0, d2⟩
  case round =>
    obtain ⟨k, hk, rfl, hR, hb⟩ := hrel
    clear hR0 d2 p1
    obtain ⟨wo, hwo⟩ : ∃ wo, wo = wr := ⟨_, rfl⟩
    subst hwo
    by_cases hlt : k < n
    · have r4 := (hb.cell (p := ⟨w.heap.size, 3, none⟩) hlt1).trans q4
      have hi1 : (k : Int) < n := by omega
      have hR1 : BRow wo b (sw (a.prs false (fun e => e.free) 0) (sws (a.pairs false (fun e => e.free)) k m0)) := hR
      have hmk := sws_len (a.pairs false (fun e => e.free)) m0 k
      have hnx : sw (a.pairs false (fun e => e.free)) (sws (a.pairs false (fun e => e.free)) k m0) = sws (a.pairs false (fun e => e.free)) (k + 1) m0 := rfl
      have HN := Lib.hid hnx
      clear hR hnx
      generalize sws (a.pairs false (fun e => e.free)) k m0 = mk at *
      rw [hml] at hmk
      go_wp2_with fail
      go_loopw [18] (fun i wr => ∃ j : Nat, j ≤ a.edges.length ∧ i = .int .i64 j ∧ BRow wr b (sw (a.prs false (fun e => e.free) j) mk) ∧ Below W1.heap.size W1 wr) (fun i _ => a.edges.length - (intOf i).toNat)
      case atStart => exact ⟨0, Nat.zero_le _, rfl, hR1, hb⟩
      case round =>
        obtain ⟨j, hj, rfl, hR2, hb2⟩ := hrel
        clear hR1 hb r4
        by_cases hlt2 : j < a.edges.length
        · obtain ⟨_, heb, hre, _⟩ := HF.out
          obtain ⟨eb, eo, rfl, heb2, hec⟩ := hre (by omega)
          obtain ⟨z0, z1, z2, z3, z4, z5, z6⟩ := cell7 hec hlt2
          have hE := heb _ (List.getElem_mem hlt2)
          have dd := below_next d1 hb2
          have y0 := (dd.cell (p := ⟨eb, eo + j * 7, none⟩) heb2).trans z0
          have y1 := (dd.cell (p := ⟨eb, eo + j * 7 + 1, none⟩) heb2).trans z1
          have y2 := (dd.cell (p := ⟨eb, eo + j * 7 + 2, none⟩) heb2).trans z2
          have y3 := (dd.cell (p := ⟨eb, eo + j * 7 + 3, none⟩) heb2).trans z3
          have y4 := (dd.cell (p := ⟨eb, eo + j * 7 + 4, none⟩) heb2).trans z4
          have y5 := (dd.cell (p := ⟨eb, eo + j * 7 + 5, none⟩) heb2).trans z5
          have y6 := (dd.cell (p := ⟨eb, eo + j * 7 + 6, none⟩) heb2).trans z6
          have hsw := sw_edge a false (fun e => e.free) mk j hlt2
          have hml2 := sw_len (a.prs false (fun e => e.free) j) mk
          rw [hmk] at hml2
          clear z0 z1 z2 z3 z4 z5 z6 hec hre heb
          generalize a.edges[j] = ed at *
          obtain ⟨ex, ey, ef, eset⟩ := ed
          simp only [turned] at hE hsw y0 y1 y2 y3 y4 y5 y6
          obtain ⟨x, rfl⟩ : ∃ x : Nat, ex = x := ⟨ex.toNat, by omega⟩
          obtain ⟨y, rfl⟩ : ∃ y : Nat, ey = y := ⟨ey.toNat, by omega⟩
          obtain ⟨⟨_, hxn⟩, _, hyn⟩ := hE
          generalize sw (a.prs false (fun e => e.free) j) mk = M at *
          have cx := hR2.cell x (by omega)
          have cy := hR2.cell y (by omega)
          have fy := hR2.free y
          have hbl := hR2.lt
          have hzb : W1.heap.size ≤ b := hb0
          have hxi : (x : Int) < n := by omega
          have hyi : (y : Int) < n := by omega
          simp only [Bool.false_eq_true, if_false, Int.toNat_natCast] at hsw
          have hba := hb2.trans ((alloc1 wr (.cells #[.int .i64 (x : Nat), .int .i64 (y : Nat), .bool ef, .int .u64 eset.w0.toNat, .int .u64 eset.w1.toNat, .int .u64 eset.w2.toNat, .int .u64 eset.w3.toNat] 73)).mono hb2.size)
          have hRa := hR2.below (alloc1 wr (.cells #[.int .i64 (x : Nat), .int .i64 (y : Nat), .bool ef, .int .u64 eset.w0.toNat, .int .u64 eset.w1.toNat, .int .u64 eset.w2.toNat, .int .u64 eset.w3.toNat] 73))
          have hRs := hR2.set y true
          have hbs := hb2.setCell (p := ⟨b, y, none⟩) hzb (.bool true)
          have HRS := Lib.hid (And.intro hRs hbs)
          clear hR2 hRs hbs
          cases ef with
          | false =>
            simp only [Bool.false_and, Bool.false_eq_true, if_false] at hsw
            have HS := Lib.hid (And.intro hsw (And.intro hml2 (And.intro hRa hba)))
            clear hsw hml2 hRa hba cx cy
            go_wp2_with fail
            go_roundw
            case rel => exact ⟨j + 1, by omega, by go_num, by rw [HS.out.1]; exact HS.out.2.2.1, HS.out.2.2.2⟩
            case measure => simp [intOf]; omega
          | true =>
            cases hmx : M.getD x false with
            | false =>
              rw [hmx] at cx
              simp only [hmx, Bool.and_false, Bool.false_eq_true, if_false] at hsw
              have HS := Lib.hid (And.intro hsw (And.intro hml2 (And.intro hRa (And.intro hba hmx))))
              clear hsw hml2 hRa hba cy hmx
              go_wp2_with fail
              go_roundw
              case rel => exact ⟨j + 1, by omega, by go_num, by rw [HS.out.1]; exact HS.out.2.2.1, HS.out.2.2.2.1⟩
              case measure => simp [intOf]; omega
            | true =>
              rw [hmx] at cx
              simp only [hmx, Bool.and_self, if_true] at hsw
              have HS := Lib.hid (And.intro hsw (And.intro hml2 (And.intro hRa (And.intro hba hmx))))
              clear hsw hml2 hRa hba hmx
              generalize M.getD y false = old at *
              go_wp2_with fail
              go_roundw
              case rel => exact ⟨j + 1, by omega, by go_num, by rw [HS.out.1]; exact HRS.out.1.below (alloc1 _ _), HRS.out.2.trans ((alloc1 _ _).mono HRS.out.2.size)⟩
              case measure => simp [intOf]; omega
        · have : j = a.edges.length := by omega
          subst this
          rw [prs_all, HN.out] at hR2
          have hRn := Lib.hid hR2
          clear hR2
          go_wp2_with fail
          go_roundw
          case rel => exact ⟨k + 1, by omega, by go_num, hRn.out, hb2⟩
          case measure => simp [intOf]; omega
    · have : k = n := by omega
      subst this
      have hmk := sws_len (a.pairs false (fun e => e.free)) m0 k
      rw [hml] at hmk
      have hrr := rrises_ok b _ k wo hmk hnn hR
      rw [HF.out.1] at hrr
      have hHb := Lib.hid hb
      clear hR hmk
      go_wp2_with fail
      refine hrr.mono ?_
      rintro e w5 ⟨v5, rfl, ho5, d5⟩
      obtain ⟨A5, c5, rfl, _⟩ := ho5.form
      go_wp2_with fail
      go_ret
      have hb := hHb.out
      exact ⟨_, rfl, ho5.lower (Nat.le_trans hz1 hb.size), below_next (below_next d1 hb) d5⟩
end Go.Proofs.YtakldmbbmefnbaaGreat
/- the reference's words: Reach, Live. -/
namespace Go.Proofs.YtakldmbbmefnbaaGreat
open Go.RowKit Go.Sort Go.Proofs
set_option maxRecDepth 100000
set_option maxHeartbeats 1000000

theorem rreach_ok (back : Bool) (a : A) (vs vf ve vl : Value) (l : List Int) (w : World) (hfa : FaAt w w.heap.size a vs vf ve) (ha : Fit a) (hl : Ints w w.heap.size vl l) (hin : Inb a l) (hll : l.length ≤ 1000000) :
    Calls Tryz.prog 15 #[vA a vs vf ve, vl, .bool back] w (fun r w' => ∃ v', r = .returned v' ∧ Own encI 1 3 w' w.heap.size v' (cl a.states.toNat (a.pairs back (fun _ => true)) l) ∧ Below w.heap.size w w') := by
  generalize hres : cl a.states.toNat (a.pairs back (fun _ => true)) l = res
  obtain ⟨n, hn⟩ : ∃ n : Nat, a.states = n := ⟨a.states.toNat, by have := ha.ok; simp [A.ok] at this; omega⟩
  have hnn : n ≤ 1000 := by have := ha.n; omega
  have hin' : ∀ s ∈ l, 0 ≤ s ∧ s < n := fun s hs => by have := hin s hs; omega
  have heb : ∀ e ∈ a.edges, (0 ≤ e.src ∧ e.src < n) ∧ 0 ≤ e.dst ∧ e.dst < n := fun e he => by have := edge_in ha he; omega
  obtain ⟨As, cs, rfl, hs1⟩ := id hfa.s
  obtain ⟨Af, cf, rfl, hs2⟩ := id hfa.f
  obtain ⟨Ae, ce, rfl, hre⟩ := id hfa.e
  obtain ⟨A0, c0, rfl, hr⟩ := id hl
  have hel := ha.e
  obtain ⟨W1, hW1⟩ : ∃ W1, w.alloc (.cells #[.int .i64 (n : Nat), .slice As a.start.length cs, .slice Af a.final.length cf, .slice Ae a.edges.length ce] 25) = W1 := ⟨_, rfl⟩
  have d1 : Below w.heap.size w W1 := hW1 ▸ alloc1 w _
  have b1 : W1.heap[w.heap.size]? = some (.cells #[.int .i64 (n : Nat), .slice As a.start.length cs, .slice Af a.final.length cf, .slice Ae a.edges.length ce] 25 (0, 0)) := by rw [← hW1]; exact heap_alloc_new w _
  have hz1 := d1.size
  have hmk := marked_ok a (.slice As a.start.length cs) (.slice Af a.final.length cf) (.slice Ae a.edges.length ce) _ l n W1 hn hnn (hl.below d1 hz1) hin' hll ⟨_, _, _, rfl⟩ ⟨_, _, _, rfl⟩ ⟨_, _, _, rfl⟩
  have hfin : rs (sws (a.pairs back (fun _ => true)) n (marks n l)) = res := by
    have h1 := sws_rs (ps := a.pairs back (fun _ => true)) (n := n) (m := marks n l) (marks_len n l) (fun p hp => by
      unfold A.pairs at hp
      obtain ⟨e, he, rfl⟩ := List.mem_map.1 hp
      have := heb e (List.mem_filter.1 he).1
      unfold turned
      cases back <;> simp <;> omega)
    rw [h1]
    rw [← hres, hn, Int.toNat_natCast]
    exact cl_same (rs_marks hin')
  have q1 : W1.cell? ⟨w.heap.size, 0, none⟩ = some (.int .i64 (n : Nat)) := cell_at b1 0
  have q2 : W1.cell? ⟨w.heap.size, 1, none⟩ = some (.slice As a.start.length cs) := cell_at b1 1
  have q3 : W1.cell? ⟨w.heap.size, 2, none⟩ = some (.slice Af a.final.length cf) := cell_at b1 2
  have q4 : W1.cell? ⟨w.heap.size, 3, none⟩ = some (.slice Ae a.edges.length ce) := cell_at b1 3
  unfold vA at hmk ⊢
  rw [hn] at hmk ⊢
  have hlt1 : w.heap.size < W1.heap.size := by rw [← hW1]; simp
  have HF := Lib.hid (And.intro hfin (And.intro heb (And.intro hre hn)))
  clear hfin heb hre hn hres hfa hl hs1 hs2 hr hin hin' b1
  go_enter Tryz.func15, Tryz.ntmps15
  go_wp2_with fail
  refine hmk.mono ?_
  rintro e w2 ⟨⟨b, rfl, hb0, hR⟩, d2⟩
  have p1 := (d2.cell (p := ⟨w.heap.size, 0, none⟩) hlt1).trans q1
  have hml := marks_len n l
  have hR0 : BRow w2 b (sws (a.pairs back (fun _ => true)) 0 (marks n l)) := hR
  clear hR hmk
  generalize marks n l = m0 at *
  go_wp2_with fail
  go_loopw [15] (fun i wr => ∃ k : Nat, k ≤ n ∧ i = .int .i64 k ∧ BRow wr b (sws (a.pairs back (fun _ => true)) k m0) ∧ Below W1.heap.size W1 wr) (fun i _ => n - (intOf i).toNat)
  case atStart => exact ⟨0, Nat.zero_le _, rfl, hR0, d2⟩
  case round =>
    obtain ⟨k, hk, rfl, hR, hb⟩ := hrel
    clear hR0 d2 p1
    obtain ⟨wo, hwo⟩ : ∃ wo, wo = wr := ⟨_, rfl⟩
    subst hwo
    by_cases hlt : k < n
    · have r4 := (hb.cell (p := ⟨w.heap.size, 3, none⟩) hlt1).trans q4
      have hi1 : (k : Int) < n := by omega
      have hR1 : BRow wo b (sw (a.prs back (fun _ => true) 0) (sws (a.pairs back (fun _ => true)) k m0)) := hR
      have hmk := sws_len (a.pairs back (fun _ => true)) m0 k
      have hnx : sw (a.pairs back (fun _ => true)) (sws (a.pairs back (fun _ => true)) k m0) = sws (a.pairs back (fun _ => true)) (k + 1) m0 := rfl
      have HN := Lib.hid hnx
      clear hR hnx
      generalize sws (a.pairs back (fun _ => true)) k m0 = mk at *
      rw [hml] at hmk
      go_wp2_with fail
      go_loopw [20] (fun i wr => ∃ j : Nat, j ≤ a.edges.length ∧ i = .int .i64 j ∧ BRow wr b (sw (a.prs back (fun _ => true) j) mk) ∧ Below W1.heap.size W1 wr) (fun i _ => a.edges.length - (intOf i).toNat)
      case atStart => exact ⟨0, Nat.zero_le _, rfl, hR1, hb⟩
      case round =>
        obtain ⟨j, hj, rfl, hR2, hb2⟩ := hrel
        clear hR1 hb r4
        by_cases hlt2 : j < a.edges.length
        · obtain ⟨_, heb, hre, _⟩ := HF.out
          obtain ⟨eb, eo, rfl, heb2, hec⟩ := hre (by omega)
          obtain ⟨z0, z1, z2, z3, z4, z5, z6⟩ := cell7 hec hlt2
          have hE := heb _ (List.getElem_mem hlt2)
          have dd := below_next d1 hb2
          have y0 := (dd.cell (p := ⟨eb, eo + j * 7, none⟩) heb2).trans z0
          have y1 := (dd.cell (p := ⟨eb, eo + j * 7 + 1, none⟩) heb2).trans z1
          have y2 := (dd.cell (p := ⟨eb, eo + j * 7 + 2, none⟩) heb2).trans z2
          have y3 := (dd.cell (p := ⟨eb, eo + j * 7 + 3, none⟩) heb2).trans z3
          have y4 := (dd.cell (p := ⟨eb, eo + j * 7 + 4, none⟩) heb2).trans z4
          have y5 := (dd.cell (p := ⟨eb, eo + j * 7 + 5, none⟩) heb2).trans z5
          have y6 := (dd.cell (p := ⟨eb, eo + j * 7 + 6, none⟩) heb2).trans z6
          have hsw := sw_edge a back (fun _ => true) mk j hlt2
          have hml2 := sw_len (a.prs back (fun _ => true) j) mk
          rw [hmk] at hml2
          clear z0 z1 z2 z3 z4 z5 z6 hec hre heb
          generalize a.edges[j] = ed at *
          obtain ⟨ex, ey, ef, eset⟩ := ed
          simp only at hE hsw y0 y1 y2 y3 y4 y5 y6
          obtain ⟨x, rfl⟩ : ∃ x : Nat, ex = x := ⟨ex.toNat, by omega⟩
          obtain ⟨y, rfl⟩ : ∃ y : Nat, ey = y := ⟨ey.toNat, by omega⟩
          obtain ⟨⟨_, hxn⟩, _, hyn⟩ := hE
          generalize sw (a.prs back (fun _ => true) j) mk = M at *
          have cx := hR2.cell x (by omega)
          have cy := hR2.cell y (by omega)
          have fy := hR2.free y
          have hbl := hR2.lt
          have hzb : W1.heap.size ≤ b := hb0
          have hxi : (x : Int) < n := by omega
          have hyi : (y : Int) < n := by omega
          have hba := hb2.trans ((alloc1 wr (.cells #[.int .i64 (x : Nat), .int .i64 (y : Nat), .bool ef, .int .u64 eset.w0.toNat, .int .u64 eset.w1.toNat, .int .u64 eset.w2.toNat, .int .u64 eset.w3.toNat] 73)).mono hb2.size)
          have hRa := hR2.below (alloc1 wr (.cells #[.int .i64 (x : Nat), .int .i64 (y : Nat), .bool ef, .int .u64 eset.w0.toNat, .int .u64 eset.w1.toNat, .int .u64 eset.w2.toNat, .int .u64 eset.w3.toNat] 73))
          cases back with
          | false =>
            simp only [turned, Bool.true_and, Bool.false_eq_true, if_false, Int.toNat_natCast] at hsw
            have fw := hR2.free y
            have hRs := hR2.set y true
            have hbs := hb2.setCell (p := ⟨b, y, none⟩) hzb (.bool true)
            have HRS := Lib.hid (And.intro hRs hbs)
            clear hR2 hRs hbs fy
            cases hmx : M.getD x false with
            | false =>
              rw [hmx] at cx
              simp only [hmx, Bool.false_eq_true, if_false] at hsw
              have HS := Lib.hid (And.intro hsw (And.intro hml2 (And.intro hRa (And.intro hba hmx))))
              clear hsw hml2 hRa hba cy hmx
              go_wp2_with fail
              go_roundw
              case rel => exact ⟨j + 1, by omega, by go_num, by rw [HS.out.1]; exact HS.out.2.2.1, HS.out.2.2.2.1⟩
              case measure => simp [intOf]; omega
            | true =>
              rw [hmx] at cx
              simp only [hmx, if_true] at hsw
              have HS := Lib.hid (And.intro hsw (And.intro hml2 (And.intro hRa (And.intro hba hmx))))
              clear hsw hml2 hRa hba hmx
              generalize M.getD y false = old at *
              go_wp2_with fail
              go_roundw
              case rel => exact ⟨j + 1, by omega, by go_num, by rw [HS.out.1]; exact HRS.out.1.below (alloc1 _ _), HRS.out.2.trans ((alloc1 _ _).mono HRS.out.2.size)⟩
              case measure => simp [intOf]; omega
          | true =>
            simp only [turned, Bool.true_and, if_true, Int.toNat_natCast] at hsw
            have fw := hR2.free x
            have hRs := hR2.set x true
            have hbs := hb2.setCell (p := ⟨b, x, none⟩) hzb (.bool true)
            have HRS := Lib.hid (And.intro hRs hbs)
            clear hR2 hRs hbs fy
            cases hmx : M.getD y false with
            | false =>
              rw [hmx] at cy
              simp only [hmx, Bool.false_eq_true, if_false] at hsw
              have HS := Lib.hid (And.intro hsw (And.intro hml2 (And.intro hRa (And.intro hba hmx))))
              clear hsw hml2 hRa hba cx hmx
              go_wp2_with fail
              go_roundw
              case rel => exact ⟨j + 1, by omega, by go_num, by rw [HS.out.1]; exact HS.out.2.2.1, HS.out.2.2.2.1⟩
              case measure => simp [intOf]; omega
            | true =>
              rw [hmx] at cy
              simp only [hmx, if_true] at hsw
              have HS := Lib.hid (And.intro hsw (And.intro hml2 (And.intro hRa (And.intro hba hmx))))
              clear hsw hml2 hRa hba hmx
              generalize M.getD x false = old at *
              go_wp2_with fail
              go_roundw
              case rel => exact ⟨j + 1, by omega, by go_num, by rw [HS.out.1]; exact HRS.out.1.below (alloc1 _ _), HRS.out.2.trans ((alloc1 _ _).mono HRS.out.2.size)⟩
              case measure => simp [intOf]; omega
        · have : j = a.edges.length := by omega
          subst this
          rw [prs_all, HN.out] at hR2
          have hRn := Lib.hid hR2
          clear hR2
          go_wp2_with fail
          go_roundw
          case rel => exact ⟨k + 1, by omega, by go_num, hRn.out, hb2⟩
          case measure => simp [intOf]; omega
    · have : k = n := by omega
      subst this
      have hmk := sws_len (a.pairs back (fun _ => true)) m0 k
      rw [hml] at hmk
      have hrr := rrises_ok b _ k wo hmk hnn hR
      rw [HF.out.1] at hrr
      have hHb := Lib.hid hb
      clear hR hmk
      go_wp2_with fail
      refine hrr.mono ?_
      rintro e w5 ⟨v5, rfl, ho5, d5⟩
      obtain ⟨A5, c5, rfl, _⟩ := ho5.form
      go_wp2_with fail
      go_ret
      have hb := hHb.out
      exact ⟨_, rfl, ho5.lower (Nat.le_trans hz1 hb.size), below_next (below_next d1 hb) d5⟩

theorem filter_take_yes {l : List Int} {p : Int → Bool} {k : Nat} (h : k < l.length) (hp : p l[k] = true) : (l.take (k + 1)).filter p = (l.take k).filter p ++ [l[k]] := by
  rw [List.take_succ_eq_append_getElem h, List.filter_append, List.filter_cons_of_pos hp, List.filter_nil]
theorem filter_take_no {l : List Int} {p : Int → Bool} {k : Nat} (h : k < l.length) (hp : p l[k] = false) : (l.take (k + 1)).filter p = (l.take k).filter p := by
  rw [List.take_succ_eq_append_getElem h, List.filter_append, List.filter_cons_of_neg (by rw [hp]; decide), List.filter_nil, List.append_nil]

theorem rlive_ok (a : A) (vs vf ve : Value) (w : World) (hfa : FaAt w w.heap.size a vs vf ve) (ha : Fit a) :
    Calls Tryz.prog 16 #[vA a vs vf ve] w (fun r w' => ∃ v', r = .returned v' ∧ Own encI 1 3 w' w.heap.size v' a.live ∧ Below w.heap.size w w') := by
  obtain ⟨i0, hi, hz0, hz1, hz2⟩ := info_parts info_int
  obtain ⟨As, cs, rfl, hs1⟩ := id hfa.s
  obtain ⟨Af, cf, rfl, hs2⟩ := id hfa.f
  obtain ⟨Ae, ce, rfl, hs3⟩ := id hfa.e
  obtain ⟨W1, hW1⟩ : ∃ W1, w.alloc (.cells #[.int .i64 a.states, .slice As a.start.length cs, .slice Af a.final.length cf, .slice Ae a.edges.length ce] 25) = W1 := ⟨_, rfl⟩
  have d1 : Below w.heap.size w W1 := hW1 ▸ alloc1 w _
  have b1 : W1.heap[w.heap.size]? = some (.cells #[.int .i64 a.states, .slice As a.start.length cs, .slice Af a.final.length cf, .slice Ae a.edges.length ce] 25 (0, 0)) := by rw [← hW1]; exact heap_alloc_new w _
  have hz1' := d1.size
  have hlt1 : w.heap.size < W1.heap.size := by rw [← hW1]; simp
  have hal := rreach_ok true a (.slice As a.start.length cs) (.slice Af a.final.length cf) (.slice Ae a.edges.length ce) _ a.final W1 (hfa.below d1 hz1') ha (hfa.f.below d1 hz1') (inb_final ha) ha.f
  have hre := fun W (d : Below W1.heap.size W1 W) => rreach_ok false a (.slice As a.start.length cs) (.slice Af a.final.length cf) (.slice Ae a.edges.length ce) _ a.start W ((hfa.below d1 hz1').below d d.size) ha ((hfa.s.below d1 hz1').below d d.size) (inb_start ha) ha.s
  have e1 : cl a.states.toNat (a.pairs true (fun _ => true)) a.final = a.alive := rfl
  have e2 : cl a.states.toNat (a.pairs false (fun _ => true)) a.start = a.reach a.start := rfl
  have e3 : a.live = (a.reach a.start).filter (fun s => a.alive.any (fun x => s == x)) := rfl
  have hll : (a.reach a.start).length ≤ 1000 := by have := cl_len a.states.toNat (a.pairs false (fun _ => true)) a.start; have := ha.n; unfold A.reach; omega
  have hla : a.alive.length ≤ 1000000 := by have := cl_len a.states.toNat (a.pairs true (fun _ => true)) a.final; have := ha.n; unfold A.alive; omega
  rw [e1] at hal
  rw [e2] at hre
  rw [e3]
  obtain ⟨q0, q1, q2, q3⟩ : W1.cell? ⟨w.heap.size, 0, none⟩ = some (.int .i64 a.states) ∧ W1.cell? ⟨w.heap.size, 1, none⟩ = some (.slice As a.start.length cs) ∧ W1.cell? ⟨w.heap.size, 2, none⟩ = some (.slice Af a.final.length cf) ∧ W1.cell? ⟨w.heap.size, 3, none⟩ = some (.slice Ae a.edges.length ce) := ⟨cell_at b1 0, cell_at b1 1, cell_at b1 2, cell_at b1 3⟩
  unfold vA at hal hre ⊢
  clear e1 e2 e3 hfa hs1 hs2 hs3 b1
  generalize a.alive = al at *
  generalize a.reach a.start = rl at *
  go_enter Tryz.func16, Tryz.ntmps16
  go_wp2_with fail
  refine hal.mono ?_
  rintro e w2 ⟨v2, rfl, o2, d2⟩
  have s2 := o2.sl encI_len
  obtain ⟨A2, c2, rfl, _⟩ := o2.form
  have p0 := (d2.cell (p := ⟨w.heap.size, 0, none⟩) hlt1).trans q0
  have p1 := (d2.cell (p := ⟨w.heap.size, 1, none⟩) hlt1).trans q1
  have p2 := (d2.cell (p := ⟨w.heap.size, 2, none⟩) hlt1).trans q2
  have p3 := (d2.cell (p := ⟨w.heap.size, 3, none⟩) hlt1).trans q3
  have hre2 := hre _ d2
  clear q0 q1 q2 q3 hre hal
  go_wp2_with fail
  refine hre2.mono ?_
  rintro e w3 ⟨v3, rfl, o3, d3⟩
  have s3 := o3.sl encI_len
  obtain ⟨A3, c3, rfl, hr3⟩ := id s3
  replace s2 := s2.below d3 d3.size
  have dw := below_next (below_next d1 d2) d3
  clear p0 p1 p2 p3 hre2 d2 d3 o2 o3
  go_wp2_with fail
  go_loopw [16, 3] (fun i v wr => ∃ (k : Nat) (A : Option Addr) (c : Nat), k ≤ rl.length ∧ i = .int .i64 k ∧ v = .slice A ((rl.take k).filter (fun s => al.any (fun x => s == x))).length c ∧ Own encI 1 3 wr w3.heap.size (.slice A ((rl.take k).filter (fun s => al.any (fun x => s == x))).length c) ((rl.take k).filter (fun s => al.any (fun x => s == x))) ∧ Below w3.heap.size w3 wr) (fun i _ _ => rl.length - (intOf i).toNat)
  case atStart => exact ⟨0, none, 0, Nat.zero_le _, rfl, rfl, Own.nil none, Below.refl _ _⟩
  case round =>
    obtain ⟨k, A0, c0, hk, rfl, rfl, ho, hb⟩ := hrel
    by_cases hlt : k < rl.length
    · obtain ⟨b0, o0, rfl, hb0, hc0⟩ := hr3 (by omega)
      have hcell := (hb.cell (p := ⟨b0, o0 + k, none⟩) hb0).trans (cell1 encI_eq hc0 hlt)
      have hi2 : (k : Int) < rl.length := by omega
      have hfl := List.length_filter_le (fun s => al.any (fun x => s == x)) (rl.take k)
      rw [List.length_take] at hfl
      have hhas := rhas_ok _ al rl[k] wr (s2.below hb hb.size) hla
      cases hp : al.any (fun x => rl[k] == x) with
      | true =>
        have hnx := filter_take_yes (p := fun s => al.any (fun x => s == x)) hlt hp
        rw [hp] at hhas
        have hbyt : (4 * (((rl.take k).filter (fun s => al.any (fun x => s == x))).length + 1) + 4096) * 8 ≤ 140737488355328 := by omega
        have hwl2 : ((rl.take k).filter (fun s => al.any (fun x => s == x))).length + 1 ≤ 4611686018427387904 := by omega
        have HN := Lib.hid hnx
        clear hnx hp hc0 hr3 s2 s3
        generalize (rl.take k).filter (fun s => al.any (fun x => s == x)) = xs at *
        generalize rl[k] = y at *
        have hbs := hb.size
        go_wp2_with fail
        refine hhas.mono ?_
        rintro e w5 ⟨rfl, rfl⟩
        go_wp2_with (at_builtin; refine wpList_append_my _ rfl (.tmp 23) (.tmp 25) 22 rfl encI_len encI_one 3 i0 _ Tryz.underlying22 hi hz0 hz1 hz2 rfl (by decide) (base := w3.heap.size) rfl (xs := xs) (ho.below (alloc1 _ _)) rfl (ys := [y]) (Sl_one (enc := encI) (size := 1) _ y _ _) hbyt hwl2 (Nat.le_trans hbs (alloc1 _ _).size) ?_; intro v1 w1 hown1 hg1 hb1 hl1; obtain ⟨A1, cc1, rfl, hle1⟩ := hown1.form)
        go_roundw
        case rel => exact ⟨k + 1, A1, cc1, by omega, by go_num, by rw [HN.out, List.length_append]; rfl, by rw [HN.out]; exact hown1, (hb.trans ((alloc1 _ _).mono hbs)).trans hl1⟩
        case measure => simp [intOf]; omega
      | false =>
        have hnx := filter_take_no (p := fun s => al.any (fun x => s == x)) hlt hp
        rw [hp] at hhas
        have HN := Lib.hid hnx
        clear hnx hp hc0 hr3 s2 s3
        generalize (rl.take k).filter (fun s => al.any (fun x => s == x)) = xs at *
        generalize rl[k] = y at *
        go_wp2_with fail
        refine hhas.mono ?_
        rintro e w5 ⟨rfl, rfl⟩
        go_wp2_with fail
        go_roundw
        case rel => exact ⟨k + 1, A0, c0, by omega, by go_num, by rw [HN.out], by rw [HN.out]; exact ho, hb⟩
        case measure => simp [intOf]; omega
    · have : k = rl.length := by omega
      subst this
      rw [List.take_length] at ho
      clear hr3 s2 s3
      rw [List.take_length]
      generalize hx : rl.filter (fun s => al.any (fun x => s == x)) = xs at *
      have HX := Lib.hid hx
      clear hx
      go_wp2
      go_ret
      exact ⟨.slice A0 xs.length c0, rfl, by rw [HX.out]; exact ho.lower dw.size, below_next dw hb⟩
end Go.Proofs.YtakldmbbmefnbaaGreat
/- '==' on sets and on edges. -/
namespace Go.Proofs.YtakldmbbmefnbaaGreat
open Go.RowKit
set_option maxRecDepth 100000

theorem BSet.eq_iff (s t : BSet) : s = t ↔ ((s.w0.toNat : Int) = t.w0.toNat ∧ (s.w1.toNat : Int) = t.w1.toNat ∧ (s.w2.toNat : Int) = t.w2.toNat ∧ (s.w3.toNat : Int) = t.w3.toNat) := by
  constructor
  · rintro rfl; simp
  · rintro ⟨h0, h1, h2, h3⟩
    cases s; cases t
    simp only at h0 h1 h2 h3
    congr 1 <;> (apply BitVec.eq_of_toNat_eq; omega)

theorem info_u64 : (Tryz.prog.info? 67).isSome = true := by kernel_rfl
theorem cells_u64' : Tryz.prog.cellsOf 67 = 1 := by kernel_rfl

theorem run_equalIn_set (d : Nat) (w : World) (s t : BSet) : (Op.equalIn (d + 2) 69 (vS s) (vS t)).run Tryz.prog w = .ok (decide (s = t)) w := by
  obtain ⟨i, hi⟩ := Option.isSome_iff_exists.1 info_u64
  have hq := BSet.eq_iff s t
  unfold vS
  rw [run_equalIn_array w (d + 1) _ _ Tryz.underlying69 hi, cells_u64']
  by_cases h0 : (s.w0.toNat : Int) = t.w0.toNat
  · by_cases h1 : (s.w1.toNat : Int) = t.w1.toNat
    · by_cases h2 : (s.w2.toNat : Int) = t.w2.toNat
      · by_cases h3 : (s.w3.toNat : Int) = t.w3.toNat
        · have : s = t := hq.2 ⟨h0, h1, h2, h3⟩
          subst this
          simp [List.range, List.range.loop, Op.eqItems, go_sem]
        · have : ¬ s = t := fun h => h3 (hq.1 h).2.2.2
          simp [List.range, List.range.loop, Op.eqItems, go_sem, h0, h1, h2, h3, this]
      · have : ¬ s = t := fun h => h2 (hq.1 h).2.2.1
        simp [List.range, List.range.loop, Op.eqItems, go_sem, h0, h1, h2, this]
    · have : ¬ s = t := fun h => h1 (hq.1 h).2.1
      simp [List.range, List.range.loop, Op.eqItems, go_sem, h0, h1, this]
  · have : ¬ s = t := fun h => h0 (hq.1 h).1
    simp [List.range, List.range.loop, Op.eqItems, go_sem, h0, this]

theorem run_eql_set (w : World) (s t : BSet) : (binOp .eql 69 (vS s) (vS t)).run Tryz.prog w = .ok (.bool (decide (s = t))) w := by
  have h := run_equalIn_set 9998 w s t
  unfold vS at h ⊢
  rw [run_eql_struct, show (10000 : Nat) = 9998 + 2 from rfl, h]
  rfl
theorem E.eq_iff (e f : E) : e = f ↔ e.src = f.src ∧ e.dst = f.dst ∧ e.free = f.free ∧ e.set = f.set := by
  cases e; cases f
  simp
theorem run_equal_edge (w : World) (e f : E) : (Op.equal 73 (vE e) (vE f)).run Tryz.prog w = .ok (decide (e = f)) w := by
  have hq := E.eq_iff e f
  have hs := run_equalIn_set 9997 w e.set f.set
  unfold vS at hs
  unfold vE
  simp only [Op.equal, Op.maxDepth, show (10000 : Nat) = 9999 + 1 from rfl]
  rw [run_equalIn_struct w 9999 _ _ _ Tryz.underlying73 (by kernel_rfl)]
  simp [Program.fieldsOf, Tryz.underlying73, Op.eqFields, go_sem, hs]
  by_cases h0 : e.src = f.src
  · by_cases h1 : e.dst = f.dst
    · by_cases h2 : e.free = f.free
      · by_cases h3 : e.set = f.set
        · have hne : e = f := hq.2 ⟨h0, h1, h2, h3⟩
          simp [hne]
        · have hne : ¬ e = f := fun h => h3 (hq.1 h).2.2.2
          simp [h0, h1, h2, h3, hne]
      · have hne : ¬ e = f := fun h => h2 (hq.1 h).2.2.1
        simp [h0, h1, h2, hne]
    · have hne : ¬ e = f := fun h => h1 (hq.1 h).2.1
      simp [h0, h1, hne]
  · have hne : ¬ e = f := fun h => h0 (hq.1 h).1
    simp [h0, hne]
theorem run_eql_edge (w : World) (e f : E) : (binOp .eql 73 (vE e) (vE f)).run Tryz.prog w = .ok (.bool (decide (e = f))) w := by
  have h := run_equal_edge w e f
  unfold vE at h ⊢
  simp [binOp, h]
theorem run_neq_edge (w : World) (e f : E) : (binOp .neq 73 (vE e) (vE f)).run Tryz.prog w = .ok (.bool (!decide (e = f))) w := by
  have h := run_equal_edge w e f
  unfold vE at h ⊢
  simp [binOp, h]
theorem run_neq_set (w : World) (s t : BSet) : (binOp .neq 69 (vS s) (vS t)).run Tryz.prog w = .ok (.bool (!decide (s = t))) w := by
  have h := run_equalIn_set 9998 w s t
  unfold vS at h ⊢
  simp [binOp, Op.equal, Op.maxDepth, h]
end Go.Proofs.YtakldmbbmefnbaaGreat
/- the reference's words: sameInts, SameEdges, Same, Has (a byte). -/
namespace Go.Proofs.YtakldmbbmefnbaaGreat
open Go.RowKit Go.Sort Go.Proofs
set_option maxRecDepth 100000
set_option maxHeartbeats 1000000

theorem sameInts_ok (v v' : Value) (xs ys : List Int) (w : World) (h : Ints w w.heap.size v xs) (h' : Ints w w.heap.size v' ys) (hn : xs.length ≤ 1000000) (hn' : ys.length ≤ 1000000) :
    Calls Tryz.prog 77 #[v, v'] w (fun r w' => r = .returned (.bool (decide (xs = ys))) ∧ Below w.heap.size w w') := by
  obtain ⟨A, c, rfl, hr⟩ := id h
  obtain ⟨A', c', rfl, hr'⟩ := id h'
  go_enter Tryz.func77, Tryz.ntmps77
  by_cases hl : ((xs.length : Int) != ys.length) = true
  · go_wp2
    go_ret
    have : xs ≠ ys := by rintro rfl; simp at hl
    exact ⟨by simp [this], Below.refl _ _⟩
  · have hl' : ((xs.length : Int) != ys.length) = false := by simpa using hl
    go_wp2
    have hll : xs.length = ys.length := by simp at hl'; omega
    have HL := Lib.hid hll
    clear hll hl hl'
    go_loopw [14] (fun i wr => ∃ k : Nat, k ≤ xs.length ∧ i = .int .i64 k ∧ Below w.heap.size w wr ∧ xs.take k = ys.take k) (fun i _ => xs.length - (intOf i).toNat)
    case atStart => exact ⟨0, Nat.zero_le _, rfl, Below.refl _ _, rfl⟩
    case round =>
      obtain ⟨k, hk, rfl, hB, hall⟩ := hrel
      have HA := Lib.hid hall
      clear hall
      by_cases hlt : k < xs.length
      · have hlt' : k < ys.length := by have := HL.out; omega
        obtain ⟨b, o, rfl, hb, hc⟩ := hr (by omega)
        obtain ⟨b', o', rfl, hb', hc'⟩ := hr' (by omega)
        have hcell := (hB.cell (p := ⟨b, o + k, none⟩) hb).trans (cell1 encI_eq hc hlt)
        have hcell' := (hB.cell (p := ⟨b', o' + k, none⟩) hb').trans (cell1 encI_eq hc' hlt')
        clear hr hc h hr' hc' h'
        have hi : (k : Int) < xs.length := by omega
        have hi' : (k : Int) < ys.length := by omega
        by_cases hpx : (xs[k] != ys[k]) = true
        · go_wp2
          go_ret
          have : xs ≠ ys := by rintro rfl; simp at hpx
          exact ⟨by simp [this], hB⟩
        · have hpx' : (xs[k] != ys[k]) = false := by simpa using hpx
          have HP := Lib.hid hpx'
          go_wp2
          go_roundw
          case rel =>
            refine ⟨k + 1, by omega, by go_num, hB, ?_⟩
            have h1 := HP.out
            have h2 : xs[k] = ys[k] := by simpa using h1
            rw [List.take_succ_eq_append_getElem hlt, List.take_succ_eq_append_getElem hlt', HA.out, h2]
          case measure => simp [intOf]; omega
      · clear hr h hr' h'
        go_wp2
        go_ret
        have h1 := HA.out
        have h2 := HL.out
        rw [List.take_of_length_le (by omega), List.take_of_length_le (by omega)] at h1
        exact ⟨by simp [h1], hB⟩

theorem sameEdges_ok (v v' : Value) (xs ys : List E) (w : World) (h : Edges w w.heap.size v xs) (h' : Edges w w.heap.size v' ys) (hn : xs.length ≤ 1000000) (hn' : ys.length ≤ 1000000) :
    Calls Tryz.prog 53 #[v, v'] w (fun r w' => r = .returned (.bool (decide (xs = ys))) ∧ Below w.heap.size w w') := by
  obtain ⟨A, c, rfl, hr⟩ := id h
  obtain ⟨A', c', rfl, hr'⟩ := id h'
  go_enter Tryz.func53, Tryz.ntmps53
  by_cases hl : ((xs.length : Int) != ys.length) = true
  · go_wp2
    go_ret
    have : xs ≠ ys := by rintro rfl; simp at hl
    exact ⟨by simp [this], Below.refl _ _⟩
  · have hl' : ((xs.length : Int) != ys.length) = false := by simpa using hl
    go_wp2
    have hll : xs.length = ys.length := by simp at hl'; omega
    have HL := Lib.hid hll
    clear hll hl hl'
    go_loopw [14] (fun i wr => ∃ k : Nat, k ≤ xs.length ∧ i = .int .i64 k ∧ Below w.heap.size w wr ∧ xs.take k = ys.take k) (fun i _ => xs.length - (intOf i).toNat)
    case atStart => exact ⟨0, Nat.zero_le _, rfl, Below.refl _ _, rfl⟩
    case round =>
      obtain ⟨k, hk, rfl, hB, hall⟩ := hrel
      have HA := Lib.hid hall
      clear hall
      by_cases hlt : k < xs.length
      · have hlt' : k < ys.length := by have := HL.out; omega
        obtain ⟨b, o, rfl, hb, hc⟩ := hr (by omega)
        obtain ⟨b', o', rfl, hb', hc'⟩ := hr' (by omega)
        obtain ⟨z0, z1, z2, z3, z4, z5, z6⟩ := cell7 hc hlt
        obtain ⟨z0', z1', z2', z3', z4', z5', z6'⟩ := cell7 hc' hlt'
        have y0 := (hB.cell (p := ⟨b, o + k * 7, none⟩) hb).trans z0
        have y0' := (hB.cell (p := ⟨b', o' + k * 7, none⟩) hb').trans z0'
        have y1 := (hB.cell (p := ⟨b, o + k * 7 + 1, none⟩) hb).trans z1
        have y1' := (hB.cell (p := ⟨b', o' + k * 7 + 1, none⟩) hb').trans z1'
        have y2 := (hB.cell (p := ⟨b, o + k * 7 + 2, none⟩) hb).trans z2
        have y2' := (hB.cell (p := ⟨b', o' + k * 7 + 2, none⟩) hb').trans z2'
        have y3 := (hB.cell (p := ⟨b, o + k * 7 + 3, none⟩) hb).trans z3
        have y3' := (hB.cell (p := ⟨b', o' + k * 7 + 3, none⟩) hb').trans z3'
        have y4 := (hB.cell (p := ⟨b, o + k * 7 + 4, none⟩) hb).trans z4
        have y4' := (hB.cell (p := ⟨b', o' + k * 7 + 4, none⟩) hb').trans z4'
        have y5 := (hB.cell (p := ⟨b, o + k * 7 + 5, none⟩) hb).trans z5
        have y5' := (hB.cell (p := ⟨b', o' + k * 7 + 5, none⟩) hb').trans z5'
        have y6 := (hB.cell (p := ⟨b, o + k * 7 + 6, none⟩) hb).trans z6
        have y6' := (hB.cell (p := ⟨b', o' + k * 7 + 6, none⟩) hb').trans z6'
        clear hr hc h hr' hc' h'
        have hi : (k : Int) < xs.length := by omega
        have hi' : (k : Int) < ys.length := by omega
        have hA1 : Below w.heap.size w (wr.alloc (.cells #[.int .i64 xs[k].src, .int .i64 xs[k].dst, .bool xs[k].free, .int .u64 xs[k].set.w0.toNat, .int .u64 xs[k].set.w1.toNat, .int .u64 xs[k].set.w2.toNat, .int .u64 xs[k].set.w3.toNat] 73)) := hB.trans ((alloc1 wr _).mono hB.size)
        have hne := fun W => run_neq_edge W xs[k] ys[k]
        unfold vE at hne
        have hbl := Nat.lt_of_lt_of_le hb hB.size
        have hbl' := Nat.lt_of_lt_of_le hb' hB.size
        clear z0 z1 z2 z3 z4 z5 z6 z0' z1' z2' z3' z4' z5' z6'
        have hwit : (∀ hq : k < xs.length, xs[k] = xs[k]'hq) := fun _ => rfl
        by_cases hpx : xs[k] = ys[k]
        · rw [decide_eq_true hpx] at hne
          have hnx : xs.take (k + 1) = ys.take (k + 1) := by rw [List.take_succ_eq_append_getElem hlt, List.take_succ_eq_append_getElem hlt', HA.out, hpx]
          have HP := Lib.hid hnx
          clear hpx hwit hnx
          generalize xs[k] = ea at *
          generalize ys[k] = eb at *
          go_wp2
          go_quiet (fail)
          go_wp2
          go_roundw
          case rel => exact ⟨k + 1, by omega, by go_num, below_drewN hA1 _, HP.out⟩
          case measure => simp [intOf]; omega
        · rw [decide_eq_false hpx] at hne
          have hnx : xs ≠ ys := by rintro rfl; exact hpx rfl
          have HP := Lib.hid hnx
          clear hpx hwit hnx
          generalize xs[k] = ea at *
          generalize ys[k] = eb at *
          go_wp2
          go_quiet (fail)
          go_wp2
          go_ret
          exact ⟨by simp [HP.out], below_drewN hA1 _⟩
      · clear hr h hr' h'
        go_wp2
        go_ret
        have h1 := HA.out
        have h2 := HL.out
        rw [List.take_of_length_le (by omega), List.take_of_length_le (by omega)] at h1
        exact ⟨by simp [h1], hB⟩

/-- Are these the same automata? (as the program asks it: of two automata in memory) -/
theorem rsame_ok (a c : A) (vs vf ve us uf ue : Value) (w : World) (h : FaAt w w.heap.size a vs vf ve) (h' : FaAt w w.heap.size c us uf ue) (ha : Short a) (hc : Short c) :
    Calls Tryz.prog 24 #[vA a vs vf ve, vA c us uf ue] w (fun r w' => r = .returned (.bool (decide (a = c))) ∧ Below w.heap.size w w') := by
  obtain ⟨As, cs, rfl, _⟩ := id h.s
  obtain ⟨Af, cf, rfl, _⟩ := id h.f
  obtain ⟨Ae, ce, rfl, _⟩ := id h.e
  obtain ⟨Bs, ds, rfl, _⟩ := id h'.s
  obtain ⟨Bf, df, rfl, _⟩ := id h'.f
  obtain ⟨Be, de, rfl, _⟩ := id h'.e
  obtain ⟨W1, hW1⟩ : ∃ W1, w.alloc (.cells #[.int .i64 a.states, .slice As a.start.length cs, .slice Af a.final.length cf, .slice Ae a.edges.length ce] 25) = W1 := ⟨_, rfl⟩
  obtain ⟨W2, hW2⟩ : ∃ W2, W1.alloc (.cells #[.int .i64 c.states, .slice Bs c.start.length ds, .slice Bf c.final.length df, .slice Be c.edges.length de] 25) = W2 := ⟨_, rfl⟩
  have d1 : Below w.heap.size w W1 := hW1 ▸ alloc1 w _
  have d2 : Below W1.heap.size W1 W2 := hW2 ▸ alloc1 W1 _
  have b1 : W1.heap[w.heap.size]? = some (.cells #[.int .i64 a.states, .slice As a.start.length cs, .slice Af a.final.length cf, .slice Ae a.edges.length ce] 25 (0, 0)) := by rw [← hW1]; exact heap_alloc_new w _
  have b2 : W2.heap[W1.heap.size]? = some (.cells #[.int .i64 c.states, .slice Bs c.start.length ds, .slice Bf c.final.length df, .slice Be c.edges.length de] 25 (0, 0)) := by rw [← hW2]; exact heap_alloc_new W1 _
  have b1' := (d2.block _ (Array.getElem?_eq_some_iff.1 b1).1).trans b1
  have dw := below_next d1 d2
  have hq : a = c ↔ a.states = c.states ∧ a.start = c.start ∧ a.final = c.final ∧ a.edges = c.edges := by cases a; cases c; simp
  have k1 := fun W (d : Below W2.heap.size W2 W) => sameInts_ok _ _ _ _ W ((h.s.below dw dw.size).below d d.size) ((h'.s.below dw dw.size).below d d.size) ha.s hc.s
  have k2 := fun W (d : Below W2.heap.size W2 W) => sameInts_ok _ _ _ _ W ((h.f.below dw dw.size).below d d.size) ((h'.f.below dw dw.size).below d d.size) ha.f hc.f
  have k3 := fun W (d : Below W2.heap.size W2 W) => sameEdges_ok _ _ _ _ W ((h.e.below dw dw.size).below d d.size) ((h'.e.below dw dw.size).below d d.size) ha.e hc.e
  have cell := fun W (d : Below W2.heap.size W2 W) => (d.block _ (Array.getElem?_eq_some_iff.1 b1').1).trans b1'
  have cell' := fun W (d : Below W2.heap.size W2 W) => (d.block _ (Array.getElem?_eq_some_iff.1 b2).1).trans b2
  have four := fun (W : World) (b : Nat) (x0 x1 x2 x3 : Value) (t : TypeId) (h : W.heap[b]? = some (.cells #[x0, x1, x2, x3] t (0, 0))) => (⟨cell_at h 0, cell_at h 1, cell_at h 2, cell_at h 3⟩ : W.cell? ⟨b, 0, none⟩ = some x0 ∧ W.cell? ⟨b, 1, none⟩ = some x1 ∧ W.cell? ⟨b, 2, none⟩ = some x2 ∧ W.cell? ⟨b, 3, none⟩ = some x3)
  have HC := Lib.hid (And.intro cell (And.intro cell' four))
  obtain ⟨p0, p1, p2, p3⟩ := four _ _ _ _ _ _ _ b1'
  obtain ⟨q0, q1, q2, q3⟩ := four _ _ _ _ _ _ _ b2
  have HK := Lib.hid (And.intro k1 (And.intro k2 k3))
  have HQ := Lib.hid hq
  unfold vA
  clear cell cell' four k1 k2 k3 hq b1 b1' b2 h h' d1 d2
  by_cases e0 : a.states = c.states
  · have e0' : (a.states == c.states) = true := by simpa using e0
    have E0 := Lib.hid e0
    clear e0
    go_enter Tryz.func24, Tryz.ntmps24
    go_wp2_with fail
    refine (HK.out.1 _ (Below.refl _ _)).mono ?_
    rintro e w3 ⟨rfl, d3⟩
    obtain ⟨p0, p1, p2, p3⟩ := HC.out.2.2 _ _ _ _ _ _ _ (HC.out.1 _ d3)
    obtain ⟨q0, q1, q2, q3⟩ := HC.out.2.2 _ _ _ _ _ _ _ (HC.out.2.1 _ d3)
    by_cases e1 : a.start = c.start
    · rw [decide_eq_true e1]
      have E1 := Lib.hid e1
      clear e1
      go_wp2_with fail
      refine (HK.out.2.1 _ d3).mono ?_
      rintro e w4 ⟨rfl, d4⟩
      replace d4 := below_next d3 d4
      obtain ⟨p0, p1, p2, p3⟩ := HC.out.2.2 _ _ _ _ _ _ _ (HC.out.1 _ d4)
      obtain ⟨q0, q1, q2, q3⟩ := HC.out.2.2 _ _ _ _ _ _ _ (HC.out.2.1 _ d4)
      by_cases e2 : a.final = c.final
      · rw [decide_eq_true e2]
        have E2 := Lib.hid e2
        clear e2
        go_wp2_with fail
        refine (HK.out.2.2 _ d4).mono ?_
        rintro e w5 ⟨rfl, d5⟩
        by_cases e3 : a.edges = c.edges
        · rw [decide_eq_true e3]
          have E3 := Lib.hid e3
          clear e3
          go_wp2_with fail
          go_ret
          exact ⟨by rw [decide_eq_true (HQ.out.2 ⟨E0.out, E1.out, E2.out, E3.out⟩)]; rfl, below_next dw (below_next d4 d5)⟩
        · rw [decide_eq_false e3]
          have E3 := Lib.hid e3
          clear e3
          go_wp2_with fail
          go_ret
          exact ⟨by rw [decide_eq_false (fun h => E3.out (HQ.out.1 h).2.2.2)]; rfl, below_next dw (below_next d4 d5)⟩
      · rw [decide_eq_false e2]
        have E2 := Lib.hid e2
        clear e2
        go_wp2_with fail
        go_ret
        exact ⟨by rw [decide_eq_false (fun h => E2.out (HQ.out.1 h).2.2.1)]; rfl, below_next dw d4⟩
    · rw [decide_eq_false e1]
      have E1 := Lib.hid e1
      clear e1
      go_wp2_with fail
      go_ret
      exact ⟨by rw [decide_eq_false (fun h => E1.out (HQ.out.1 h).2.1)]; rfl, below_next dw d3⟩
  · have e0' : (a.states == c.states) = false := by simpa using e0
    have E0 := Lib.hid e0
    clear e0
    go_enter Tryz.func24, Tryz.ntmps24
    go_wp2_with fail
    go_ret
    exact ⟨by rw [decide_eq_false (fun h => E0.out (HQ.out.1 h).1)]; rfl, dw⟩
end Go.Proofs.YtakldmbbmefnbaaGreat
/- A region whose order is open, each of whose operations keeps what the others have come to: what each yields is told by a relation of its own. -/
namespace Go.Proofs.YtakldmbbmefnbaaGreat
open Go.RowKit

/-- The slots, when operation i has yielded f i. -/
def putF (f : Nat → Value) : Nat → List Oper → Array Value → Array Value
  | _, [], tm => tm
  | i, o :: r, tm => putF f (i + 1) r (match o.dst with | some d => tm.setIfInBounds d (f i) | none => tm)

/-- No operation hangs on a test. -/
def noGuard (ops : Array Oper) : Bool := ops.toList.all fun o => o.guard.isNone

/-- What is known of the operations that one waits for. -/
def AfterAll (Pv : Nat → Value → World → Prop) (f : Nat → Value) (w : World) : List Edge → Prop
  | [] => True
  | x :: r => (Region.binds .any x = true → Pv x.on (f x.on) w) ∧ AfterAll Pv f w r

def updF (f : Nat → Value) (i : Nat) (v : Value) : Nat → Value := fun j => if j = i then v else f j

section
variable {P : Program} {ops : Array Oper} {Q : Exit → Act → World → Prop} {a0 : Act} {f : Nat → Value}

theorem putF_size : ∀ (l : List Oper) (k : Nat) (tm : Array Value), (putF f k l tm).size = tm.size
  | [], _, _ => rfl
  | o :: r, k, tm => by
    rw [putF, putF_size r]
    cases o.dst <;> simp
theorem putF_other (t : Tmp) : ∀ (l : List Oper) (k : Nat) (tm : Array Value), (∀ (j : Nat) (o : Oper), l[j]? = some o → o.dst ≠ some t) → (putF f k l tm)[t]? = tm[t]?
  | [], _, _, _ => rfl
  | o :: r, k, tm, h => by
    rw [putF, putF_other t r _ _ (fun j o' ho => h (j + 1) o' (by simpa using ho))]
    have h0 := h 0 o rfl
    cases hd : o.dst with
    | none => rfl
    | some d =>
      have hne : d ≠ t := fun e => h0 (by rw [hd, e])
      simp only []
      rw [Array.getElem?_setIfInBounds_ne hne]
theorem putF_at (d : Tmp) : ∀ (l : List Oper) (k : Nat) (tm : Array Value) (j : Nat) (o : Oper), l[j]? = some o → o.dst = some d → (∀ (j' : Nat) (o' : Oper), l[j']? = some o' → o'.dst = some d → j' = j) → d < tm.size → (putF f k l tm)[d]? = some (f (k + j))
  | [], _, _, _, _, h, _, _, _ => by simp at h
  | o :: r, k, tm, 0, o', h, hd, hu, hlt => by
    simp at h; subst h
    rw [putF, putF_other d r _ _ (fun j o' ho hdo => by have := hu (j + 1) o' (by simpa using ho) hdo; omega)]
    simp only [hd]
    rw [Array.getElem?_setIfInBounds_self_of_lt hlt]
    rfl
  | o :: r, k, tm, j + 1, o', h, hd, hu, hlt => by
    simp at h
    rw [putF, putF_at d r (k + 1) _ j o' h hd (fun j' o'' ho hdo => by have := hu (j' + 1) o'' (by simpa using ho) hdo; omega) (by cases o.dst <;> simpa using hlt)]
    congr 2
    omega

theorem dst_one (hd : dstsOk ops = true) {i j : Nat} {o o' : Oper} {d : Tmp} (hi : ops[i]? = some o) (hj : ops[j]? = some o') (h1 : o.dst = some d) (h2 : o'.dst = some d) : j = i := by
  have hin : i < ops.size := (Array.getElem?_eq_some_iff.1 hi).1
  have hjn : j < ops.size := (Array.getElem?_eq_some_iff.1 hj).1
  unfold dstsOk at hd
  have h3 := List.all_eq_true.1 hd i (List.mem_range.2 hin)
  have h4 := List.all_eq_true.1 h3 j (List.mem_range.2 hjn)
  simp only [hi, hj, h1, h2, bne_self_eq_false, Bool.or_false, beq_iff_eq] at h4
  exact h4.symm

/-- The frame when some operations have been carried out. -/
structure MidF (ops : Array Oper) (a0 : Act) (f : Nat → Value) (listed : Array Bool) (a : Act) : Prop where
  defers : a.defers = a0.defers
  size : a.tmps.size = a0.tmps.size
  done : ∀ (j : Nat) (o : Oper) (d : Tmp), ops[j]? = some o → o.dst = some d → listed.getD j false = true → d < a0.tmps.size → a.tmps[d]? = some (f j)
  rest : ∀ t : Tmp, (∀ (j : Nat) (o : Oper), ops[j]? = some o → listed.getD j false = true → o.dst ≠ some t) → a.tmps[t]? = a0.tmps[t]?

theorem set_get {listed : Array Bool} {i : Nat} (hi : i < listed.size) (j : Nat) (d : Bool) : (listed.setIfInBounds i true).getD j d = if j = i then true else listed.getD j d := by
  by_cases he : j = i
  · subst he; simp [hi]
  · simp only [he, if_false, Array.getD_eq_getD_getElem?]
    rw [Array.getElem?_setIfInBounds_ne (fun h => he h.symm)]

theorem MidF.start : MidF ops a0 f (Array.replicate ops.size false) a0 :=
  ⟨rfl, rfl, fun j o d ho hd hl => by
    have : (Array.replicate ops.size false).getD j false = false := by
      by_cases h : j < ops.size <;> simp [h]
    rw [this] at hl; exact absurd hl (by simp), fun _ _ => rfl⟩

theorem MidF.put {listed : Array Bool} {a : Act} (h : MidF ops a0 f listed a) {i : Nat} {o : Oper} (hi : ops[i]? = some o) (hlt : i < listed.size) (hd : dstsOk ops = true) (v : Value) :
    MidF ops a0 (updF f i v) (listed.setIfInBounds i true) (a.put o.dst v) := by
  refine ⟨?_, ?_, ?_, ?_⟩
  · cases ho : o.dst <;> simp [Act.put, h.defers]
  · cases ho : o.dst <;> simp [Act.put, h.size]
  · intro j o' d hj hod hl hb
    rw [set_get hlt] at hl
    by_cases e : j = i
    · subst e
      rw [hi] at hj
      cases hj
      simp only [hod, Act.put, updF, if_pos]
      rw [Array.getElem?_setIfInBounds_self_of_lt (by rw [h.size]; exact hb)]
    · rw [if_neg e] at hl
      have := h.done j o' d hj hod hl hb
      have hu : updF f i v j = f j := by unfold updF; rw [if_neg e]
      rw [hu]
      cases hoo : o.dst with
      | none => simpa [Act.put] using this
      | some d' =>
        have hne : d' ≠ d := fun hh => e (dst_one hd hi hj (hh ▸ hoo) hod)
        simp only [Act.put]
        rw [Array.getElem?_setIfInBounds_ne hne]
        exact this
  · intro t ht
    have h1 : o.dst ≠ some t := ht i o hi (by rw [set_get hlt]; simp)
    have h2 := h.rest t (fun j o' hj hl => ht j o' hj (by rw [set_get hlt]; split <;> simp_all))
    cases hoo : o.dst with
    | none => simpa [Act.put] using h2
    | some d' =>
      have hne : d' ≠ t := fun hh => h1 (hh ▸ hoo)
      simp only [Act.put]
      rw [Array.getElem?_setIfInBounds_ne hne]
      exact h2

theorem MidF.at {listed : Array Bool} {a fin : Act} (h : MidF ops a0 f listed a) (hd : dstsOk ops = true) (hfin : fin.tmps = putF f 0 ops.toList a0.tmps) (t : Tmp)
    (hw : (∀ (j : Nat) (o : Oper), ops[j]? = some o → o.dst ≠ some t) ∨ ∃ (j : Nat) (o : Oper), ops[j]? = some o ∧ o.dst = some t ∧ listed.getD j false = true) : a.tmps[t]? = fin.tmps[t]? := by
  rw [hfin]
  rcases hw with hw | ⟨j, o, hj, ho, hl⟩
  · rw [h.rest t (fun j o hj _ => hw j o hj), putF_other t _ _ _ (fun j o ho => hw j o (by simpa using ho))]
  · by_cases hb : t < a0.tmps.size
    · rw [h.done j o t hj ho hl hb, putF_at t _ 0 _ j o (by simpa using hj) ho (fun j' o' hj' ho' => dst_one hd hj (by simpa using hj') ho ho') hb]
      simp
    · rw [Array.getElem?_eq_none (by rw [h.size]; exact Nat.le_of_not_lt hb), Array.getElem?_eq_none (by rw [putF_size]; exact Nat.le_of_not_lt hb)]

/-- **A region whose order is open**: S tells, of what has been carried out and yielded, what the world is. -/
theorem wp_region_free {id : Nat} {w : World} (hmo : P.follows .mixedOrders = true) (S : Array Bool → (Nat → Value) → World → Prop) (fin : (Nat → Value) → Act) (hd : depsOk ops = true) (hdd : dstsOk ops = true) (hng : noGuard ops = true)
    (hfin : ∀ f, (fin f).tmps = putF f 0 ops.toList a0.tmps) (hdf : ∀ f, (fin f).defers = a0.defers) (f0 : Nat → Value) (h0 : S (Array.replicate ops.size false) f0 w.drew)
    (hstep : ∀ (i : Nat) (o : Oper), ops[i]? = some o → ∀ (listed : Array Bool) (f : Nat → Value) (w : World), listed.size = ops.size → listed.getD i true = false → (∀ x ∈ o.after, Region.binds .any x = true → listed.getD x.on false = true) → S listed f w →
      ∀ (a : Act) (K : Act → World → Prop), (∀ v w', S (listed.setIfInBounds i true) (updF f i v) w' → K (a.put o.dst v) w') → o.upon P a K Q ((execOp (fin f).eval o).run P w))
    (hend : ∀ (listed : Array Bool) (f : Nat → Value) (w : World), (∀ i, i < ops.size → listed.getD i false = true) → S listed f w → Q .normal (fin f) w) :
    (Code.region id ops true).wp P Q a0 w := by
  have readyOf : ∀ (listed : Array Bool) (i : Nat), i ∈ Region.ready .any ops listed → i < ops.size ∧ listed.getD i true = false ∧ ∀ x ∈ (ops.getD i default).after, Region.binds .any x = true → listed.getD x.on false = true := by
    intro listed i hi
    simp only [Region.ready, List.mem_filter, List.mem_range, Bool.and_eq_true, Bool.not_eq_true'] at hi
    obtain ⟨hlt, hun, hx⟩ := hi
    refine ⟨hlt, hun, fun x hmem hb => ?_⟩
    have ho : ops[i]? = some ops[i] := Array.getElem?_eq_getElem hlt
    rw [ho] at hx
    simp only [Option.map_some, Option.getD_some] at hx
    have hg : ops.getD i default = ops[i] := by simp [hlt]
    rw [hg] at hmem
    have h5 := Array.all_eq_true'.1 hx x hmem
    simpa [hb] using h5
  have noReady : ∀ (listed : Array Bool), listed.size = ops.size → Region.ready .any ops listed = [] → ∀ i, i < ops.size → listed.getD i true = true := by
    intro listed hs hr i
    induction i using Nat.strongRecOn with
    | _ i ih =>
      intro hi
      cases hl : listed.getD i true with
      | true => rfl
      | false =>
        exfalso
        have ho : ops[i]? = some ops[i] := Array.getElem?_eq_getElem hi
        have : i ∈ Region.ready .any ops listed := by
          simp only [Region.ready, List.mem_filter, List.mem_range, hi, hl, ho, Option.map_some, Option.getD_some, Bool.not_false, Bool.true_and, true_and]
          refine Array.all_eq_true'.2 fun x hx => ?_
          unfold depsOk at hd
          have h1 := List.all_eq_true.1 hd i (List.mem_range.2 hi)
          simp only [ho, Bool.and_eq_true] at h1
          have h2 := Array.all_eq_true'.1 h1.1.1 x hx
          simp only [Bool.or_eq_true, decide_eq_true_eq] at h2 ⊢
          rcases h2 with h2 | h2
          · exact .inl h2
          · right
            have h3 := ih x.on h2 (by omega)
            have hel : x.on < listed.size := by omega
            simpa [Array.getD, hel] using h3
        rw [hr] at this
        cases this
  have tt : ∀ (listed : Array Bool) (i : Nat), i < listed.size → listed.getD i true = true → listed.getD i false = true := by
    intro listed i hi h
    simpa [Array.getD, hi] using h
  have full : ∀ (f : Nat → Value) (listed : Array Bool) (a : Act), listed.size = ops.size → (∀ i, i < ops.size → listed.getD i true = true) → MidF ops a0 f listed a → a = fin f := by
    intro f listed a hs hl hm
    have : a.tmps = (fin f).tmps := by
      apply Array.ext_getElem?
      intro t
      refine hm.at hdd (hfin f) t ?_
      by_cases hw : ∃ (j : Nat) (o' : Oper), ops[j]? = some o' ∧ o'.dst = some t
      · obtain ⟨j, o', hj, hod⟩ := hw
        have hjn : j < ops.size := (Array.getElem?_eq_some_iff.1 hj).1
        exact .inr ⟨j, o', hj, hod, tt _ _ (by omega) (hl j hjn)⟩
      · exact .inl fun j o' hj hod => hw ⟨j, o', hj, hod⟩
    have h2 := hm.defers
    have h3 := hdf f
    revert this h2 h3
    generalize fin f = g
    cases a; cases g
    intro h1 h2 h3
    simp only at h1 h2 h3
    rw [h1, h2, h3]
  have main : ∀ (fuel : Nat) (listed : Array Bool) (f : Nat → Value) (a : Act) (w : World), listed.size = ops.size → (∀ l : List Nat, l.Nodup → (∀ i ∈ l, i < ops.size ∧ listed.getD i true = false) → l.length ≤ fuel) →
      MidF ops a0 f listed a → S listed f w → wpAny P .any ops Q fuel listed a w := by
    have fin_ : ∀ (listed : Array Bool) (f : Nat → Value) (a : Act) (w : World), listed.size = ops.size → (∀ i, i < ops.size → listed.getD i true = true) → MidF ops a0 f listed a → S listed f w → Q .normal a w := by
      intro listed f a w hs hl hm h
      rw [full f listed a hs hl hm]
      exact hend listed f w (fun i hi => tt _ _ (by omega) (hl i hi)) h
    intro fuel
    induction fuel with
    | zero =>
      intro listed f a w hs hf hm h
      have hl : ∀ i, i < ops.size → listed.getD i true = true := by
        intro i hi
        cases h : listed.getD i true with
        | true => rfl
        | false =>
          have := hf [i] (by simp) (fun j hj => by rw [List.mem_singleton.1 hj]; exact ⟨hi, h⟩)
          simp at this
      refine ⟨?_, fin_ listed f a w hs hl hm h⟩
      unfold Region.ready
      rw [List.filter_eq_nil_iff]
      intro i hi
      simp [hl i (List.mem_range.1 hi)]
    | succ fuel ih =>
      intro listed f a w hs hf hm h
      refine ⟨fun hr => fin_ listed f a w hs (noReady listed hs hr) hm h, fun i hi => ?_⟩
      obtain ⟨hlt, hun, hdeps⟩ := readyOf listed i hi
      have ho : ops[i]? = some ops[i] := Array.getElem?_eq_getElem hlt
      have hgd : ops.getD i default = ops[i] := by simp [hlt]
      rw [hgd] at hdeps
      have hil : i < listed.size := by omega
      have hf' : ∀ l : List Nat, l.Nodup → (∀ j ∈ l, j < ops.size ∧ (listed.setIfInBounds i true).getD j true = false) → l.length ≤ fuel := by
        intro l hnd hl
        have hni : i ∉ l := by
          intro hmem
          have := (hl i hmem).2
          rw [set_get hil] at this
          simp at this
        have := hf (i :: l) (List.nodup_cons.2 ⟨hni, hnd⟩) (by
          intro j hj
          rcases List.mem_cons.1 hj with rfl | hj
          · exact ⟨hlt, hun⟩
          · obtain ⟨h1, h2⟩ := hl j hj
            refine ⟨h1, ?_⟩
            have hne : j ≠ i := fun e => hni (e ▸ hj)
            rw [set_get hil, if_neg hne] at h2
            exact h2)
        simp at this
        omega
      have hlook : ∀ t ∈ ops[i].looksAt ops, a.tmps[t]? = (fin f).tmps[t]? := by
        intro t ht
        refine hm.at hdd (hfin f) t ?_
        by_cases hw : ∃ (j : Nat) (o' : Oper), ops[j]? = some o' ∧ o'.dst = some t
        · obtain ⟨j, o', hj, hod⟩ := hw
          have hjn : j < ops.size := (Array.getElem?_eq_some_iff.1 hj).1
          refine .inr ⟨j, o', hj, hod, ?_⟩
          unfold depsOk at hd
          have h1 := List.all_eq_true.1 hd i (List.mem_range.2 hlt)
          simp only [ho, Bool.and_eq_true] at h1
          have h2 := List.all_eq_true.1 h1.2 t ht
          have h3 := List.all_eq_true.1 h2 j (List.mem_range.2 hjn)
          simp only [hj, hod, bne_self_eq_false, Bool.false_or] at h3
          obtain ⟨e, he, heq⟩ := Array.any_eq_true'.1 h3
          simp only [Bool.and_eq_true, beq_iff_eq] at heq
          have := hdeps e he heq.2
          rwa [heq.1] at this
        · exact .inl fun j o' hj hod => hw ⟨j, o', hj, hod⟩
      have he : execOp a.eval ops[i] = execOp (fin f).eval ops[i] := by
        refine execOp_congr ops[i] ?_ ?_
        · intro cs b hc
          unfold depsOk at hd
          have h1 := List.all_eq_true.1 hd i (List.mem_range.2 hlt)
          simp [ho, hc] at h1
        · intro x hx
          cases x with
          | tmp t =>
            have ht : t ∈ ops[i].looksAt ops := by
              unfold Oper.looksAt
              refine List.mem_append.2 (.inl ?_)
              exact List.mem_filterMap.2 ⟨.tmp t, by simpa using hx, rfl⟩
            have := hlook t ht
            simp only [Act.eval, Array.getD_eq_getD_getElem?, this]
          | _ => rfl
      have hg : ops[i].guard = none := by
        have := List.all_eq_true.1 hng ops[i] (by simp)
        simpa using this
      unfold wpOp
      rw [ho]
      simp only [Region.wanted, hg, if_true]
      left
      unfold Oper.wp
      rw [he]
      exact hstep i _ ho listed f w hs hun hdeps h a _ fun v w' h' => ih _ _ _ w' (by simpa using hs) hf' (hm.put ho hil hdd v) h'
  refine wp_region_any hmo (main ops.size _ f0 a0 _ (by simp) ?_ MidF.start h0)
  intro l hnd hl
  exact nodup_le ops.size l hnd (fun i hi => (hl i hi).1)

theorem afterAll_of {Pv : Nat → Value → World → Prop} {f : Nat → Value} {w : World} : ∀ (l : List Edge), (∀ x ∈ l, Region.binds .any x = true → Pv x.on (f x.on) w) → AfterAll Pv f w l
  | [], _ => trivial
  | x :: r, h => ⟨h x (by simp), afterAll_of r (fun y hy => h y (List.mem_cons_of_mem _ hy))⟩

/-- The last operation comes behind all others. -/
def lastAll (ops : Array Oper) : Bool :=
  match ops[ops.size - 1]? with
  | none => false
  | some o => (List.range (ops.size - 1)).all fun j => o.after.any fun x => x.on == j && Region.binds .any x

/-- Each of the operations takes its step. -/
def StepsF (P : Program) (Q : Exit → Act → World → Prop) (R : World → Prop) (T : World → World → Prop) (Pv : Nat → Value → World → Prop) (fin : (Nat → Value) → Act) (f : Nat → Value) (w : World) : Nat → List Oper → Prop
  | _, [] => True
  | i, o :: r => (AfterAll Pv f w o.after.toList → ∀ (a : Act) (K : Act → World → Prop), (∀ v w', R w' → T w w' → Pv i v w' → K (a.put o.dst v) w') → o.upon P a K Q ((execOp (fin f).eval o).run P w)) ∧ StepsF P Q R T Pv fin f w (i + 1) r

theorem stepsF_at {R : World → Prop} {T : World → World → Prop} {Pv : Nat → Value → World → Prop} {fin : (Nat → Value) → Act} {f : Nat → Value} {w : World} : ∀ (l : List Oper) (k i : Nat) (o : Oper), l[i]? = some o → StepsF P Q R T Pv fin f w k l →
    (AfterAll Pv f w o.after.toList → ∀ (a : Act) (K : Act → World → Prop), (∀ v w', R w' → T w w' → Pv (k + i) v w' → K (a.put o.dst v) w') → o.upon P a K Q ((execOp (fin f).eval o).run P w))
  | [], _, _, _, h, _ => by simp at h
  | o' :: r, k, 0, o, h, hs => by simp at h; subst h; exact hs.1
  | o' :: r, k, i + 1, o, h, hs => by
    simp at h
    have := stepsF_at r (k + 1) i o h hs.2
    rwa [show k + 1 + i = k + (i + 1) by omega] at this

/-- **The same, with a relation for each operation but the last one**, which comes behind all others. T: what an operation may do to the world; Pv: what it yields, which T keeps. -/
theorem wp_region_local {id : Nat} {w : World} (hmo : P.follows .mixedOrders = true) (R : World → Prop) (T : World → World → Prop) (Pv : Nat → Value → World → Prop) (S2 : (Nat → Value) → World → Prop) (fin : (Nat → Value) → Act)
    (hd : depsOk ops = true) (hdd : dstsOk ops = true) (hng : noGuard ops = true) (hla : lastAll ops = true)
    (hfin : ∀ f, (fin f).tmps = putF f 0 ops.toList a0.tmps) (hdf : ∀ f, (fin f).defers = a0.defers)
    (hk : ∀ i v a b, T a b → Pv i v a → Pv i v b) (h0 : R w.drew)
    (hstep : ∀ (f : Nat → Value) (w : World), R w → StepsF P Q R T Pv fin f w 0 ops.toList.dropLast)
    (hlast : ∀ (o : Oper), ops[ops.size - 1]? = some o → ∀ (f : Nat → Value) (w : World), R w → (∀ i, i < ops.size - 1 → Pv i (f i) w) →
      ∀ (a : Act) (K : Act → World → Prop), (∀ v w', S2 (updF f (ops.size - 1) v) w' → K (a.put o.dst v) w') → o.upon P a K Q ((execOp (fin f).eval o).run P w))
    (hend : ∀ f w, S2 f w → Q .normal (fin f) w) :
    (Code.region id ops true).wp P Q a0 w := by
  have hne : 0 < ops.size := by
    unfold lastAll at hla
    rcases Nat.eq_zero_or_pos ops.size with h | h
    · rw [Array.getElem?_eq_none (by omega)] at hla; cases hla
    · exact h
  refine wp_region_free (P := P) (ops := ops) (Q := Q) (a0 := a0) hmo (fun listed f w => if listed.getD (ops.size - 1) false = true then (∀ j, j < ops.size → listed.getD j false = true) ∧ S2 f w else R w ∧ ∀ i, i < ops.size - 1 → listed.getD i false = true → Pv i (f i) w) fin hd hdd hng hfin hdf (fun _ => undef) ?_ ?_ ?_
  · have hr : ∀ i, (Array.replicate ops.size false).getD i false = false := fun i => by by_cases h : i < ops.size <;> simp [h]
    rw [if_neg (by rw [hr]; decide)]
    exact ⟨h0, fun i _ h => by rw [hr] at h; cases h⟩
  · intro i o hi listed f w hs hun hdeps hS a K hK
    have hlt : i < ops.size := (Array.getElem?_eq_some_iff.1 hi).1
    have hil : i < listed.size := by omega
    have hnl : ¬ listed.getD (ops.size - 1) false = true → R w ∧ ∀ i, i < ops.size - 1 → listed.getD i false = true → Pv i (f i) w := fun h => by rwa [if_neg h] at hS
    by_cases hlast' : i = ops.size - 1
    · subst hlast'
      have hnf : ¬ listed.getD (ops.size - 1) false = true := by
        intro h
        simp [Array.getD, hil] at h hun
        rw [h] at hun; cases hun
      obtain ⟨hR, hPv⟩ := hnl hnf
      have hall : ∀ j, j < ops.size - 1 → listed.getD j false = true := by
        intro j hj
        unfold lastAll at hla
        rw [hi] at hla
        simp only at hla
        have h1 := List.all_eq_true.1 hla j (List.mem_range.2 hj)
        obtain ⟨x, hx, hxx⟩ := Array.any_eq_true'.1 h1
        simp only [Bool.and_eq_true, beq_iff_eq] at hxx
        have := hdeps x hx hxx.2
        rwa [hxx.1] at this
      refine hlast o hi f w hR (fun j hj => hPv j hj (hall j hj)) a K fun v w' h2 => hK v w' ?_
      rw [set_get hil, if_pos rfl, if_pos rfl]
      refine ⟨fun j hj => ?_, h2⟩
      rw [set_get hil]
      split
      · rfl
      · exact hall j (by omega)
    · have hli : i < ops.size - 1 := by omega
      have hnf : ¬ listed.getD (ops.size - 1) false = true := by
        intro h
        rw [if_pos h] at hS
        have := hS.1 i hlt
        simp [Array.getD, hil] at this hun
        rw [this] at hun; cases hun
      obtain ⟨hR, hPv⟩ := hnl hnf
      have hd' : ops.toList.dropLast[i]? = some o := by
        rw [List.getElem?_dropLast, if_pos (by simpa using hli)]
        simpa using hi
      have hst := stepsF_at (P := P) (Q := Q) (R := R) (T := T) (Pv := Pv) (fin := fin) (f := f) (w := w) _ 0 i o hd' (hstep f w hR)
      rw [Nat.zero_add] at hst
      refine hst (afterAll_of _ fun x hx hb => ?_) a K fun v w' h1 h2 h3 => hK v w' ?_
      · have hxx := hdeps x (by simpa using hx) hb
        refine hPv x.on ?_ hxx
        refine Classical.byContradiction fun hn => ?_
        have hdx : x.on < i := by
          unfold depsOk at hd
          have h1 := List.all_eq_true.1 hd i (List.mem_range.2 hlt)
          simp only [hi, Bool.and_eq_true] at h1
          have h2 := Array.all_eq_true'.1 h1.1.1 x (by simpa using hx)
          simpa [hb] using h2
        omega
      · have hg : (listed.setIfInBounds i true).getD (ops.size - 1) false = listed.getD (ops.size - 1) false := by rw [set_get hil, if_neg (fun h => hlast' h.symm)]
        rw [hg, if_neg hnf]
        refine ⟨h1, fun j hj hl => ?_⟩
        by_cases e : j = i
        · subst e
          unfold updF; rw [if_pos rfl]; exact h3
        · rw [set_get hil, if_neg e] at hl
          unfold updF; rw [if_neg e]
          exact hk _ _ _ _ h2 (hPv j hj hl)
  · intro listed f w hl hS
    rw [if_pos (hl _ (by omega))] at hS
    exact hend f w hS.2
end
end Go.Proofs.YtakldmbbmefnbaaGreat
/- A region whose order is open up to its m-th operation, each of which keeps what the others have come to; the rest come one behind the other. -/
namespace Go.Proofs.YtakldmbbmefnbaaGreat
open Go.RowKit

/-- What the first m operations look at: nothing that another one of them writes, but behind it. -/
def depsTo (ops : Array Oper) (m : Nat) : Bool :=
  (List.range m).all fun i => match ops[i]? with
    | none => true
    | some o => (o.after.all fun e => !Region.binds .any e || decide (e.on < i)) && (match o.op with | .select .. => false | _ => true) && o.guard.isNone &&
      ((o.looksAt ops).all fun t => (List.range m).all fun j => match ops[j]? with
        | none => true
        | some o' => (o'.dst != some t) || (o.after.any fun e => e.on == j && Region.binds .any e))
/-- For what an operation waits. -/
def waits (ops : Array Oper) (i : Nat) : List Nat := match ops[i]? with
  | none => []
  | some o => (o.after.toList.filter (fun e => Region.binds .any e)).map (·.on)
/-- These, and for what they wait, on and on (what stands below n). -/
def downTo (ops : Array Oper) : Nat → List Nat → List Nat
  | 0, S => S
  | j + 1, S => downTo ops j (if S.contains j then S ++ waits ops j else S)
/-- Each of the others comes behind all that stand ahead of it, and waits for none that stands behind it. -/
def tailOk (ops : Array Oper) (m : Nat) : Bool :=
  (List.range ops.size).all fun i => decide (i < m) || ((waits ops i).all (fun j => decide (j < i)) && ((List.range i).all fun j => (downTo ops i (waits ops i)).contains j))
/-- What has been carried out waits for nothing that has not. -/
def Closed (ops : Array Oper) (listed : Array Bool) : Prop := ∀ i, listed.getD i false = true → ∀ j ∈ waits ops i, listed.getD j false = true
theorem down_in {ops : Array Oper} {listed : Array Bool} (hc : Closed ops listed) : ∀ (n : Nat) (S : List Nat), (∀ j ∈ S, listed.getD j false = true) → ∀ j ∈ downTo ops n S, listed.getD j false = true
  | 0, S, h, j, hj => h j hj
  | n + 1, S, h, j, hj => by
    refine down_in hc n _ (fun k hk => ?_) j hj
    split at hk
    · rename_i hm
      rcases List.mem_append.1 hk with hk | hk
      · exact h k hk
      · exact hc n (h n (by simpa using hm)) k hk
    · exact h k hk
theorem mem_waits {ops : Array Oper} {i : Nat} {o : Oper} (ho : ops[i]? = some o) {j : Nat} : j ∈ waits ops i ↔ ∃ x ∈ o.after, x.on = j ∧ Region.binds .any x = true := by
  unfold waits
  rw [ho]
  simp only [List.mem_map, List.mem_filter]
  constructor
  · rintro ⟨x, ⟨h1, h2⟩, rfl⟩
    exact ⟨x, by simpa using h1, rfl, h2⟩
  · rintro ⟨x, h1, rfl, h2⟩
    exact ⟨x, ⟨by simpa using h1, h2⟩, rfl⟩

section
variable {P : Program} {ops : Array Oper} {Q : Exit → Act → World → Prop} {a0 : Act}

theorem wpOp_mono {i : Nat} {a : Act} {w : World} {K K' : Act → World → Prop} (h : ∀ a w, K a w → K' a w) (hh : wpOp P ops Q i K a w) : wpOp P ops Q i K' a w := by
  unfold wpOp at *
  cases ho : ops[i]? with
  | none => rw [ho] at hh; exact h _ _ hh
  | some o =>
    rw [ho] at hh
    simp only at hh ⊢
    split at hh
    · rename_i hw
      rw [if_pos hw]
      rcases hh with h1 | h1
      · exact .inl (Oper.wp_mono h h1)
      · exact .inr h1
    · rename_i hw
      rw [if_neg hw]
      exact h _ _ hh

theorem ready_of {listed : Array Bool} {i : Nat} (hi : i ∈ Region.ready .any ops listed) : i < ops.size ∧ listed.getD i true = false ∧ ∀ o, ops[i]? = some o → ∀ x ∈ o.after, Region.binds .any x = true → listed.getD x.on false = true := by
  simp only [Region.ready, List.mem_filter, List.mem_range, Bool.and_eq_true, Bool.not_eq_true'] at hi
  obtain ⟨hlt, hun, hx⟩ := hi
  refine ⟨hlt, hun, fun o ho x hmem hb => ?_⟩
  rw [ho] at hx
  simp only [Option.map_some, Option.getD_some] at hx
  have h5 := Array.all_eq_true'.1 hx x hmem
  simpa [hb] using h5
theorem ready_in {listed : Array Bool} {i : Nat} (hi : i < ops.size) (hun : listed.getD i true = false) (h : ∀ o, ops[i]? = some o → ∀ x ∈ o.after, Region.binds .any x = true → listed.getD x.on false = true) : i ∈ Region.ready .any ops listed := by
  have ho : ops[i]? = some ops[i] := Array.getElem?_eq_getElem hi
  simp only [Region.ready, List.mem_filter, List.mem_range, hi, hun, ho, Option.map_some, Option.getD_some, Bool.not_false, Bool.true_and, true_and]
  refine Array.all_eq_true'.2 fun x hx => ?_
  cases hb : Region.binds .any x with
  | false => simp
  | true => simpa [hb] using h _ ho x hx hb
theorem getD_ft {listed : Array Bool} {i : Nat} (hi : i < listed.size) : listed.getD i true = listed.getD i false := by simp [Array.getD, hi]

theorem closed_set {listed : Array Bool} (hc : Closed ops listed) {i : Nat} (hi : i < listed.size) (h : ∀ j ∈ waits ops i, listed.getD j false = true) : Closed ops (listed.setIfInBounds i true) := by
  intro k hk j hj
  have h2 : listed.getD j false = true := by
    rw [set_get hi] at hk
    by_cases e : k = i
    · subst e; exact h j hj
    · rw [if_neg e] at hk; exact hc k hk j hj
  rw [set_get hi]
  split
  · rfl
  · exact h2

theorem wp_tail {m : Nat} (htl : tailOk ops m = true) : ∀ (r fuel k : Nat) (listed : Array Bool) (a : Act) (w : World), k + r = ops.size → m ≤ k → listed.size = ops.size → (∀ i, i < ops.size → listed.getD i false = decide (i < k)) → Closed ops listed → r ≤ fuel →
    wpList P ops Q (ops.toList.drop k) a w → wpAny P .any ops Q fuel listed a w := by
  intro r
  induction r with
  | zero =>
    intro fuel k listed a w hk _ hs hl _ _ h
    rw [List.drop_of_length_le (by simp; omega)] at h
    have hq : Q .normal a w := h
    have hnr : ∀ i, ¬ i ∈ Region.ready .any ops listed := by
      intro i hi
      obtain ⟨h1, h2, _⟩ := ready_of hi
      rw [getD_ft (by omega), hl i h1] at h2
      simp at h2; omega
    cases fuel with
    | zero => exact ⟨List.eq_nil_iff_forall_not_mem.2 hnr, hq⟩
    | succ fuel => exact ⟨fun _ => hq, fun i hi => absurd hi (hnr i)⟩
  | succ r ih =>
    intro fuel k listed a w hk hmk hs hl hcl hf h
    obtain ⟨fuel, rfl⟩ : ∃ f, fuel = f + 1 := ⟨fuel - 1, by omega⟩
    have hkn : k < ops.size := by omega
    have ho : ops[k]? = some ops[k] := Array.getElem?_eq_getElem hkn
    have tailAt : ∀ i, m ≤ i → ∀ o, ops[i]? = some o → (∀ x ∈ o.after, Region.binds .any x = true → x.on < i) ∧ ((∀ x ∈ o.after, Region.binds .any x = true → listed.getD x.on false = true) → ∀ j, j < i → listed.getD j false = true) := by
      intro i hmi o hoi
      have hin : i < ops.size := (Array.getElem?_eq_some_iff.1 hoi).1
      have h1 := List.all_eq_true.1 htl i (List.mem_range.2 hin)
      simp only [Bool.or_eq_true, decide_eq_true_eq, Bool.and_eq_true] at h1
      rcases h1 with h1 | h1
      · omega
      · refine ⟨fun x hx hb => ?_, fun hd j hj => ?_⟩
        · have := List.all_eq_true.1 h1.1 x.on ((mem_waits hoi).2 ⟨x, hx, rfl, hb⟩)
          simpa using this
        · have h2 := List.all_eq_true.1 h1.2 j (List.mem_range.2 hj)
          refine down_in hcl i _ (fun q hq => ?_) j (by simpa using h2)
          obtain ⟨x, hx, rfl, hb⟩ := (mem_waits hoi).1 hq
          exact hd x hx hb
    have hkr : k ∈ Region.ready .any ops listed := by
      refine ready_in hkn (by rw [getD_ft (by omega), hl k hkn]; simp) fun o hok x hx hb => ?_
      have := (tailAt k hmk o hok).1 x hx hb
      rw [hl _ (by omega)]; simpa using this
    refine ⟨fun hr => absurd hkr (by rw [hr]; simp), fun i hi => ?_⟩
    obtain ⟨h1, h2, h3⟩ := ready_of hi
    rw [getD_ft (by omega), hl i h1] at h2
    simp at h2
    have hik : i = k := by
      refine Classical.byContradiction fun hne => ?_
      have := (tailAt i (by omega) _ (Array.getElem?_eq_getElem h1)).2 (h3 _ (Array.getElem?_eq_getElem h1)) k (by omega)
      rw [hl k hkn] at this
      simp at this
    subst hik
    have hd : ops.toList.drop i = ops[i] :: ops.toList.drop (i + 1) := by
      rw [List.drop_eq_getElem_cons (by simpa using hkn)]
      simp
    rw [hd] at h
    have h' : wpOp P ops Q i (wpList P ops Q (ops.toList.drop (i + 1))) a w := by
      unfold wpOp
      rw [ho]
      exact h
    refine wpOp_mono (fun a w hw => ih fuel (i + 1) _ a w (by omega) (by omega) (by simpa using hs) (fun j hj => ?_) (closed_set hcl (by omega) (fun j hj => ?_)) (by omega) hw) h'
    · rw [set_get (by omega)]
      by_cases e : j = i
      · subst e; simp
      · rw [if_neg e, hl j hj]
        by_cases hlt : j < i
        · simp [hlt]; omega
        · simp [hlt]; omega
    · obtain ⟨x, hx, rfl, hb⟩ := (mem_waits (Array.getElem?_eq_getElem h1)).1 hj
      exact h3 _ (Array.getElem?_eq_getElem h1) x hx hb

/-- **A region whose order is open**: of the first m operations each yields what a relation tells, which what the others do keeps; what is left is walked as it stands. -/
theorem wp_region_phases {id : Nat} {w : World} (m : Nat) (hmo : P.follows .mixedOrders = true) (R : World → Prop) (T : World → World → Prop) (Pv : Nat → Value → World → Prop) (fin : (Nat → Value) → Act)
    (hm : m ≤ ops.size) (hd : depsTo ops m = true) (hdd : dstsOk (ops.extract 0 m) = true) (htl : tailOk ops m = true)
    (hfin : ∀ f, (fin f).tmps = putF f 0 (ops.toList.take m) a0.tmps) (hdf : ∀ f, (fin f).defers = a0.defers)
    (hk : ∀ i v a b, T a b → Pv i v a → Pv i v b) (h0 : R w.drew)
    (hstep : ∀ (f : Nat → Value) (w : World), R w → StepsF P Q R T Pv fin f w 0 (ops.toList.take m))
    (htail : ∀ (f : Nat → Value) (w : World), R w → (∀ i, i < m → Pv i (f i) w) → wpList P ops Q (ops.toList.drop m) (fin f) w) :
    (Code.region id ops true).wp P Q a0 w := by
  have hget : ∀ i, i < m → (ops.extract 0 m)[i]? = ops[i]? := by
    intro i hi
    rw [Array.getElem?_extract, if_pos (by omega)]
    simp
  have hget2 : ∀ (i : Nat) (o : Oper), (ops.extract 0 m)[i]? = some o → i < m ∧ ops[i]? = some o := by
    intro i o h
    have := (Array.getElem?_eq_some_iff.1 h).1
    simp at this
    exact ⟨by omega, by rw [← hget i (by omega)]; exact h⟩
  have hfin' : ∀ f, (fin f).tmps = putF f 0 (ops.extract 0 m).toList a0.tmps := by
    intro f
    rw [hfin f]
    congr 1
    simp
  have full : ∀ (f : Nat → Value) (listed : Array Bool) (a : Act), listed.size = ops.size → (∀ i, i < m → listed.getD i false = true) → MidF (ops.extract 0 m) a0 f listed a → a = fin f := by
    intro f listed a hs hl hmid
    have : a.tmps = (fin f).tmps := by
      apply Array.ext_getElem?
      intro t
      refine hmid.at hdd (hfin' f) t ?_
      by_cases hw : ∃ (j : Nat) (o' : Oper), (ops.extract 0 m)[j]? = some o' ∧ o'.dst = some t
      · obtain ⟨j, o', hj, hod⟩ := hw
        exact .inr ⟨j, o', hj, hod, hl j (hget2 j o' hj).1⟩
      · exact .inl fun j o' hj hod => hw ⟨j, o', hj, hod⟩
    have h2 := hmid.defers
    have h3 := hdf f
    revert this h2 h3
    generalize fin f = g
    cases a; cases g
    intro h1 h2 h3
    simp only at h1 h2 h3
    rw [h1, h2, h3]
  have main : ∀ (fuel : Nat) (listed : Array Bool) (f : Nat → Value) (a : Act) (w : World), listed.size = ops.size → (∀ i, m ≤ i → i < ops.size → listed.getD i false = false) → Closed ops listed → (∀ l : List Nat, l.Nodup → (∀ i ∈ l, i < ops.size ∧ listed.getD i true = false) → l.length ≤ fuel) →
      MidF (ops.extract 0 m) a0 f listed a → R w → (∀ i, i < m → listed.getD i false = true → Pv i (f i) w) → wpAny P .any ops Q fuel listed a w := by
    intro fuel
    induction fuel with
    | zero =>
      intro listed f a w hs hge hcl hf hmid hR hPv
      have hl : ∀ i, i < ops.size → listed.getD i false = true := by
        intro i hi
        cases h : listed.getD i true with
        | true => rw [← getD_ft (by omega)]; exact h
        | false =>
          have := hf [i] (by simp) (fun j hj => by rw [List.mem_singleton.1 hj]; exact ⟨hi, h⟩)
          simp at this
      have hmn : m = ops.size := by
        refine Classical.byContradiction fun hne => ?_
        have h1 := hge m (Nat.le_refl m) (by omega)
        rw [hl m (by omega)] at h1
        cases h1
      have ha := full f listed a hs (fun i hi => hl i (by omega)) hmid
      subst ha
      refine wp_tail htl 0 0 ops.size listed _ w (by omega) (by omega) hs (fun i hi => by rw [hl i hi]; simp [hi]) hcl (Nat.le_refl _) ?_
      have := htail f w hR (fun i hi => hPv i hi (hl i (by omega)))
      rwa [hmn] at this
    | succ fuel ih =>
      intro listed f a w hs hge hcl hf hmid hR hPv
      by_cases hall : ∀ i, i < m → listed.getD i false = true
      · have ha := full f listed a hs hall hmid
        subst ha
        refine wp_tail htl (ops.size - m) (fuel + 1) m listed _ w (by omega) (Nat.le_refl _) hs (fun i hi => ?_) hcl ?_ (htail f w hR (fun i hi => hPv i hi (hall i hi)))
        · by_cases him : i < m
          · rw [hall i him]; simp [him]
          · rw [hge i (by omega) hi]; simp [him]
        · have := hf ((List.range (ops.size - m)).map (m + ·)) (by
            unfold List.Nodup
            rw [List.pairwise_map]
            exact List.nodup_range.imp (fun h e => h (by omega))) (fun i hi => by
            obtain ⟨j, hj, rfl⟩ := List.mem_map.1 hi
            have := List.mem_range.1 hj
            exact ⟨by omega, by rw [getD_ft (by omega)]; exact hge _ (by omega) (by omega)⟩)
          simpa using this
      · -- one of the first is left: it is ready, or one that it waits for
        have hno : ∃ i, i < m ∧ listed.getD i false = false := by
          refine Classical.byContradiction fun hn => hall fun i hi => ?_
          cases h : listed.getD i false with
          | true => rfl
          | false => exact absurd ⟨i, hi, h⟩ hn
        have hsome : Region.ready .any ops listed ≠ [] := by
          obtain ⟨i0, hi0, h0'⟩ := hno
          intro hr
          have : ∀ i, i < m → listed.getD i false = true := by
            intro i
            induction i using Nat.strongRecOn with
            | _ i ihi =>
              intro hi
              cases hl : listed.getD i false with
              | true => rfl
              | false =>
                exfalso
                have hin : i ∈ Region.ready .any ops listed := by
                  refine ready_in (by omega) (by rw [getD_ft (by omega)]; exact hl) fun o ho x hx hb => ?_
                  have h1 := List.all_eq_true.1 hd i (List.mem_range.2 hi)
                  simp only [ho, Bool.and_eq_true] at h1
                  have h2 := Array.all_eq_true'.1 h1.1.1.1 x hx
                  have h3 : x.on < i := by simpa [hb] using h2
                  exact ihi x.on h3 (by omega)
                rw [hr] at hin
                cases hin
          rw [this i0 hi0] at h0'
          cases h0'
        refine ⟨fun hr => absurd hr hsome, fun i hi => ?_⟩
        obtain ⟨hlt, hun, hdeps⟩ := ready_of hi
        have ho : ops[i]? = some ops[i] := Array.getElem?_eq_getElem hlt
        replace hdeps := hdeps _ ho
        have hil : i < listed.size := by omega
        have him : i < m := by
          refine Classical.byContradiction fun hn => ?_
          have h1 := List.all_eq_true.1 htl i (List.mem_range.2 hlt)
          simp only [Bool.or_eq_true, decide_eq_true_eq, Bool.and_eq_true] at h1
          obtain ⟨i0, hi0, h0'⟩ := hno
          rcases h1 with h1 | h1
          · omega
          · have h2 := List.all_eq_true.1 h1.2 i0 (List.mem_range.2 (by omega))
            have := down_in hcl i _ (fun q hq => by
              obtain ⟨x, hx, rfl, hb⟩ := (mem_waits ho).1 hq
              exact hdeps x hx hb) i0 (by simpa using h2)
            rw [h0'] at this
            cases this
        have hf' : ∀ l : List Nat, l.Nodup → (∀ j ∈ l, j < ops.size ∧ (listed.setIfInBounds i true).getD j true = false) → l.length ≤ fuel := by
          intro l hnd hl
          have hni : i ∉ l := by
            intro hmem
            have := (hl i hmem).2
            rw [set_get hil] at this
            simp at this
          have := hf (i :: l) (List.nodup_cons.2 ⟨hni, hnd⟩) (by
            intro j hj
            rcases List.mem_cons.1 hj with rfl | hj
            · exact ⟨hlt, hun⟩
            · obtain ⟨h1, h2⟩ := hl j hj
              refine ⟨h1, ?_⟩
              have hne : j ≠ i := fun e => hni (e ▸ hj)
              rw [set_get hil, if_neg hne] at h2
              exact h2)
          simp at this
          omega
        have hdi := List.all_eq_true.1 hd i (List.mem_range.2 him)
        simp only [ho, Bool.and_eq_true] at hdi
        have hlook : ∀ t ∈ ops[i].looksAt ops, a.tmps[t]? = (fin f).tmps[t]? := by
          intro t ht
          refine hmid.at hdd (hfin' f) t ?_
          by_cases hw : ∃ (j : Nat) (o' : Oper), (ops.extract 0 m)[j]? = some o' ∧ o'.dst = some t
          · obtain ⟨j, o', hj, hod⟩ := hw
            obtain ⟨hjm, hj'⟩ := hget2 j o' hj
            refine .inr ⟨j, o', hj, hod, ?_⟩
            have h2 := List.all_eq_true.1 hdi.2 t ht
            have h3 := List.all_eq_true.1 h2 j (List.mem_range.2 hjm)
            simp only [hj', hod, bne_self_eq_false, Bool.false_or] at h3
            obtain ⟨e, he, heq⟩ := Array.any_eq_true'.1 h3
            simp only [Bool.and_eq_true, beq_iff_eq] at heq
            have := hdeps e he heq.2
            rwa [heq.1] at this
          · exact .inl fun j o' hj hod => hw ⟨j, o', hj, hod⟩
        have he : execOp a.eval ops[i] = execOp (fin f).eval ops[i] := by
          refine execOp_congr ops[i] ?_ ?_
          · intro cs b hc
            have h1 := hdi.1.1.2
            simp [hc] at h1
          · intro x hx
            cases x with
            | tmp t =>
              have ht : t ∈ ops[i].looksAt ops := by
                unfold Oper.looksAt
                refine List.mem_append.2 (.inl ?_)
                exact List.mem_filterMap.2 ⟨.tmp t, by simpa using hx, rfl⟩
              have := hlook t ht
              simp only [Act.eval, Array.getD_eq_getD_getElem?, this]
            | _ => rfl
        have hg : ops[i].guard = none := by
          have := hdi.1.2
          simpa using this
        unfold wpOp
        rw [ho]
        simp only [Region.wanted, hg, if_true]
        left
        unfold Oper.wp
        rw [he]
        have hdt : (ops.toList.take m)[i]? = some ops[i] := by
          rw [List.getElem?_take, if_pos him]
          simp
        have hst := stepsF_at (P := P) (Q := Q) (R := R) (T := T) (Pv := Pv) (fin := fin) (f := f) (w := w) _ 0 i _ hdt (hstep f w hR)
        rw [Nat.zero_add] at hst
        refine hst (afterAll_of _ fun x hx hb => ?_) a _ fun v w' h1 h2 h3 => ?_
        · have hx' : x ∈ ops[i].after := by simpa using hx
          have h4 := Array.all_eq_true'.1 hdi.1.1.1 x hx'
          have h5 : x.on < i := by simpa [hb] using h4
          exact hPv x.on (by omega) (hdeps x hx' hb)
        · refine ih _ (updF f i v) _ w' (by simpa using hs) (fun j hj1 hj2 => ?_) (closed_set hcl hil (fun j hj => by
            obtain ⟨x, hx, rfl, hb⟩ := (mem_waits ho).1 hj
            exact hdeps x hx hb)) hf' (hmid.put (hget i him ▸ ho) hil hdd v) h1 (fun j hj hl => ?_)
          · rw [set_get hil, if_neg (by omega)]
            exact hge j hj1 hj2
          · by_cases e : j = i
            · subst e
              unfold updF; rw [if_pos rfl]; exact h3
            · rw [set_get hil, if_neg e] at hl
              unfold updF; rw [if_neg e]
              exact hk _ _ _ _ h2 (hPv j hj hl)
  refine wp_region_any hmo (main ops.size _ (fun _ => undef) a0 _ (by simp) (fun i _ _ => ?_) (fun i hi => ?_) ?_ ?_ h0 (fun i hi hl => ?_))
  · by_cases h : i < ops.size <;> simp [h]
  · have : (Array.replicate ops.size false).getD i false = false := by
      by_cases h : i < ops.size <;> simp [h]
    rw [this] at hi; cases hi
  · intro l hnd hl
    exact nodup_le ops.size l hnd (fun i hi => (hl i hi).1)
  · exact ⟨rfl, rfl, fun j o d ho hd hl => by
      have : (Array.replicate ops.size false).getD j false = false := by
        by_cases h : j < ops.size <;> simp [h]
      rw [this] at hl; exact absurd hl (by simp), fun _ _ => rfl⟩
  · have : (Array.replicate ops.size false).getD i false = false := by
      by_cases h : i < ops.size <;> simp [h]
    rw [this] at hl; cases hl
/-- The same: the frame is made out of the one that stands. -/
theorem wp_region_auto {id : Nat} {w : World} (m : Nat) (hmo : P.follows .mixedOrders = true) (R : World → Prop) (T : World → World → Prop) (Pv : Nat → Value → World → Prop) (fin : (Nat → Value) → Act)
    (hfin : ∀ f, ({ tmps := putF f 0 (ops.toList.take m) a0.tmps, defers := a0.defers } : Act) = fin f)
    (hm : m ≤ ops.size) (hd : depsTo ops m = true) (hdd : dstsOk (ops.extract 0 m) = true) (htl : tailOk ops m = true)
    (hk : ∀ i v a b, T a b → Pv i v a → Pv i v b) (h0 : R w.drew)
    (hstep : ∀ (f : Nat → Value) (w : World), R w → StepsF P Q R T Pv fin f w 0 (ops.toList.take m))
    (htail : ∀ (f : Nat → Value) (w : World), R w → (∀ i, i < m → Pv i (f i) w) → wpList P ops Q (ops.toList.drop m) (fin f) w) :
    (Code.region id ops true).wp P Q a0 w :=
  wp_region_phases m hmo R T Pv fin hm hd hdd htl (fun f => by rw [← hfin f]) (fun f => by rw [← hfin f]) hk h0 hstep htail
/-- Each of the operations takes its step, or is passed over. -/
def StepsG (P : Program) (ops : Array Oper) (Q : Exit → Act → World → Prop) (R : World → Prop) (T : World → World → Prop) (Pv : Nat → Value → World → Prop) (fin : (Nat → Value) → Act) (f : Nat → Value) (w : World) : Nat → List Oper → Prop
  | _, [] => True
  | i, o :: r => (AfterAll Pv f w o.after.toList → ∀ (a : Act) (K : Act → World → Prop), (∀ v w', R w' → T w w' → Pv i v w' → K (a.put o.dst v) w') → if Region.wanted o (yielded ops (fin f).tmps) then o.upon P a K Q ((execOp (fin f).eval o).run P w) else K (a.put o.dst undef) w) ∧ StepsG P ops Q R T Pv fin f w (i + 1) r
theorem stepsG_at {R : World → Prop} {T : World → World → Prop} {Pv : Nat → Value → World → Prop} {fin : (Nat → Value) → Act} {f : Nat → Value} {w : World} : ∀ (l : List Oper) (k i : Nat) (o : Oper), l[i]? = some o → StepsG P ops Q R T Pv fin f w k l →
    (AfterAll Pv f w o.after.toList → ∀ (a : Act) (K : Act → World → Prop), (∀ v w', R w' → T w w' → Pv (k + i) v w' → K (a.put o.dst v) w') → if Region.wanted o (yielded ops (fin f).tmps) then o.upon P a K Q ((execOp (fin f).eval o).run P w) else K (a.put o.dst undef) w)
  | [], _, _, _, h, _ => by simp at h
  | o' :: r, k, 0, o, h, hs => by simp at h; subst h; exact hs.1
  | o' :: r, k, i + 1, o, h, hs => by
    simp at h
    have := stepsG_at r (k + 1) i o h hs.2
    rwa [show k + 1 + i = k + (i + 1) by omega] at this
/-- What the first m operations look at, their guards too: nothing that another one of them writes, but behind it. -/
def depsG (ops : Array Oper) (m : Nat) : Bool :=
  (List.range m).all fun i => match ops[i]? with
    | none => true
    | some o => (o.after.all fun e => !Region.binds .any e || decide (e.on < i)) && (match o.op with | .select .. => false | _ => true) &&
      ((o.looksAt ops).all fun t => (List.range m).all fun j => match ops[j]? with
        | none => true
        | some o' => (o'.dst != some t) || (o.after.any fun e => e.on == j && Region.binds .any e))
/-- **A region whose order is open**: of the first m operations each yields what a relation tells, which what the others do keeps; what is left is walked as it stands. -/
theorem wp_region_guards {id : Nat} {w : World} (m : Nat) (hmo : P.follows .mixedOrders = true) (R : World → Prop) (T : World → World → Prop) (Pv : Nat → Value → World → Prop) (fin : (Nat → Value) → Act)
    (hm : m ≤ ops.size) (hd : depsG ops m = true) (hdd : dstsOk (ops.extract 0 m) = true) (htl : tailOk ops m = true)
    (hfin : ∀ f, (fin f).tmps = putF f 0 (ops.toList.take m) a0.tmps) (hdf : ∀ f, (fin f).defers = a0.defers)
    (hk : ∀ i v a b, T a b → Pv i v a → Pv i v b) (h0 : R w.drew)
    (hstep : ∀ (f : Nat → Value) (w : World), R w → StepsG P ops Q R T Pv fin f w 0 (ops.toList.take m))
    (htail : ∀ (f : Nat → Value) (w : World), R w → (∀ i, i < m → Pv i (f i) w) → wpList P ops Q (ops.toList.drop m) (fin f) w) :
    (Code.region id ops true).wp P Q a0 w := by
  have hget : ∀ i, i < m → (ops.extract 0 m)[i]? = ops[i]? := by
    intro i hi
    rw [Array.getElem?_extract, if_pos (by omega)]
    simp
  have hget2 : ∀ (i : Nat) (o : Oper), (ops.extract 0 m)[i]? = some o → i < m ∧ ops[i]? = some o := by
    intro i o h
    have := (Array.getElem?_eq_some_iff.1 h).1
    simp at this
    exact ⟨by omega, by rw [← hget i (by omega)]; exact h⟩
  have hfin' : ∀ f, (fin f).tmps = putF f 0 (ops.extract 0 m).toList a0.tmps := by
    intro f
    rw [hfin f]
    congr 1
    simp
  have full : ∀ (f : Nat → Value) (listed : Array Bool) (a : Act), listed.size = ops.size → (∀ i, i < m → listed.getD i false = true) → MidF (ops.extract 0 m) a0 f listed a → a = fin f := by
    intro f listed a hs hl hmid
    have : a.tmps = (fin f).tmps := by
      apply Array.ext_getElem?
      intro t
      refine hmid.at hdd (hfin' f) t ?_
      by_cases hw : ∃ (j : Nat) (o' : Oper), (ops.extract 0 m)[j]? = some o' ∧ o'.dst = some t
      · obtain ⟨j, o', hj, hod⟩ := hw
        exact .inr ⟨j, o', hj, hod, hl j (hget2 j o' hj).1⟩
      · exact .inl fun j o' hj hod => hw ⟨j, o', hj, hod⟩
    have h2 := hmid.defers
    have h3 := hdf f
    revert this h2 h3
    generalize fin f = g
    cases a; cases g
    intro h1 h2 h3
    simp only at h1 h2 h3
    rw [h1, h2, h3]
  have main : ∀ (fuel : Nat) (listed : Array Bool) (f : Nat → Value) (a : Act) (w : World), listed.size = ops.size → (∀ i, m ≤ i → i < ops.size → listed.getD i false = false) → Closed ops listed → (∀ l : List Nat, l.Nodup → (∀ i ∈ l, i < ops.size ∧ listed.getD i true = false) → l.length ≤ fuel) →
      MidF (ops.extract 0 m) a0 f listed a → R w → (∀ i, i < m → listed.getD i false = true → Pv i (f i) w) → wpAny P .any ops Q fuel listed a w := by
    intro fuel
    induction fuel with
    | zero =>
      intro listed f a w hs hge hcl hf hmid hR hPv
      have hl : ∀ i, i < ops.size → listed.getD i false = true := by
        intro i hi
        cases h : listed.getD i true with
        | true => rw [← getD_ft (by omega)]; exact h
        | false =>
          have := hf [i] (by simp) (fun j hj => by rw [List.mem_singleton.1 hj]; exact ⟨hi, h⟩)
          simp at this
      have hmn : m = ops.size := by
        refine Classical.byContradiction fun hne => ?_
        have h1 := hge m (Nat.le_refl m) (by omega)
        rw [hl m (by omega)] at h1
        cases h1
      have ha := full f listed a hs (fun i hi => hl i (by omega)) hmid
      subst ha
      refine wp_tail htl 0 0 ops.size listed _ w (by omega) (by omega) hs (fun i hi => by rw [hl i hi]; simp [hi]) hcl (Nat.le_refl _) ?_
      have := htail f w hR (fun i hi => hPv i hi (hl i (by omega)))
      rwa [hmn] at this
    | succ fuel ih =>
      intro listed f a w hs hge hcl hf hmid hR hPv
      by_cases hall : ∀ i, i < m → listed.getD i false = true
      · have ha := full f listed a hs hall hmid
        subst ha
        refine wp_tail htl (ops.size - m) (fuel + 1) m listed _ w (by omega) (Nat.le_refl _) hs (fun i hi => ?_) hcl ?_ (htail f w hR (fun i hi => hPv i hi (hall i hi)))
        · by_cases him : i < m
          · rw [hall i him]; simp [him]
          · rw [hge i (by omega) hi]; simp [him]
        · have := hf ((List.range (ops.size - m)).map (m + ·)) (by
            unfold List.Nodup
            rw [List.pairwise_map]
            exact List.nodup_range.imp (fun h e => h (by omega))) (fun i hi => by
            obtain ⟨j, hj, rfl⟩ := List.mem_map.1 hi
            have := List.mem_range.1 hj
            exact ⟨by omega, by rw [getD_ft (by omega)]; exact hge _ (by omega) (by omega)⟩)
          simpa using this
      · -- one of the first is left: it is ready, or one that it waits for
        have hno : ∃ i, i < m ∧ listed.getD i false = false := by
          refine Classical.byContradiction fun hn => hall fun i hi => ?_
          cases h : listed.getD i false with
          | true => rfl
          | false => exact absurd ⟨i, hi, h⟩ hn
        have hsome : Region.ready .any ops listed ≠ [] := by
          obtain ⟨i0, hi0, h0'⟩ := hno
          intro hr
          have : ∀ i, i < m → listed.getD i false = true := by
            intro i
            induction i using Nat.strongRecOn with
            | _ i ihi =>
              intro hi
              cases hl : listed.getD i false with
              | true => rfl
              | false =>
                exfalso
                have hin : i ∈ Region.ready .any ops listed := by
                  refine ready_in (by omega) (by rw [getD_ft (by omega)]; exact hl) fun o ho x hx hb => ?_
                  have h1 := List.all_eq_true.1 hd i (List.mem_range.2 hi)
                  simp only [ho, Bool.and_eq_true] at h1
                  have h2 := Array.all_eq_true'.1 h1.1.1 x hx
                  have h3 : x.on < i := by simpa [hb] using h2
                  exact ihi x.on h3 (by omega)
                rw [hr] at hin
                cases hin
          rw [this i0 hi0] at h0'
          cases h0'
        refine ⟨fun hr => absurd hr hsome, fun i hi => ?_⟩
        obtain ⟨hlt, hun, hdeps⟩ := ready_of hi
        have ho : ops[i]? = some ops[i] := Array.getElem?_eq_getElem hlt
        replace hdeps := hdeps _ ho
        have hil : i < listed.size := by omega
        have him : i < m := by
          refine Classical.byContradiction fun hn => ?_
          have h1 := List.all_eq_true.1 htl i (List.mem_range.2 hlt)
          simp only [Bool.or_eq_true, decide_eq_true_eq, Bool.and_eq_true] at h1
          obtain ⟨i0, hi0, h0'⟩ := hno
          rcases h1 with h1 | h1
          · omega
          · have h2 := List.all_eq_true.1 h1.2 i0 (List.mem_range.2 (by omega))
            have := down_in hcl i _ (fun q hq => by
              obtain ⟨x, hx, rfl, hb⟩ := (mem_waits ho).1 hq
              exact hdeps x hx hb) i0 (by simpa using h2)
            rw [h0'] at this
            cases this
        have hf' : ∀ l : List Nat, l.Nodup → (∀ j ∈ l, j < ops.size ∧ (listed.setIfInBounds i true).getD j true = false) → l.length ≤ fuel := by
          intro l hnd hl
          have hni : i ∉ l := by
            intro hmem
            have := (hl i hmem).2
            rw [set_get hil] at this
            simp at this
          have := hf (i :: l) (List.nodup_cons.2 ⟨hni, hnd⟩) (by
            intro j hj
            rcases List.mem_cons.1 hj with rfl | hj
            · exact ⟨hlt, hun⟩
            · obtain ⟨h1, h2⟩ := hl j hj
              refine ⟨h1, ?_⟩
              have hne : j ≠ i := fun e => hni (e ▸ hj)
              rw [set_get hil, if_neg hne] at h2
              exact h2)
          simp at this
          omega
        have hdi := List.all_eq_true.1 hd i (List.mem_range.2 him)
        simp only [ho, Bool.and_eq_true] at hdi
        have hlook : ∀ t ∈ ops[i].looksAt ops, a.tmps[t]? = (fin f).tmps[t]? := by
          intro t ht
          refine hmid.at hdd (hfin' f) t ?_
          by_cases hw : ∃ (j : Nat) (o' : Oper), (ops.extract 0 m)[j]? = some o' ∧ o'.dst = some t
          · obtain ⟨j, o', hj, hod⟩ := hw
            obtain ⟨hjm, hj'⟩ := hget2 j o' hj
            refine .inr ⟨j, o', hj, hod, ?_⟩
            have h2 := List.all_eq_true.1 hdi.2 t ht
            have h3 := List.all_eq_true.1 h2 j (List.mem_range.2 hjm)
            simp only [hj', hod, bne_self_eq_false, Bool.false_or] at h3
            obtain ⟨e, he, heq⟩ := Array.any_eq_true'.1 h3
            simp only [Bool.and_eq_true, beq_iff_eq] at heq
            have := hdeps e he heq.2
            rwa [heq.1] at this
          · exact .inl fun j o' hj hod => hw ⟨j, o', hj, hod⟩
        have he : execOp a.eval ops[i] = execOp (fin f).eval ops[i] := by
          refine execOp_congr ops[i] ?_ ?_
          · intro cs b hc
            have h1 := hdi.1.2
            simp [hc] at h1
          · intro x hx
            cases x with
            | tmp t =>
              have ht : t ∈ ops[i].looksAt ops := by
                unfold Oper.looksAt
                refine List.mem_append.2 (.inl ?_)
                exact List.mem_filterMap.2 ⟨.tmp t, by simpa using hx, rfl⟩
              have := hlook t ht
              simp only [Act.eval, Array.getD_eq_getD_getElem?, this]
            | _ => rfl
        have hwt : Region.wanted ops[i] (yielded ops a.tmps) = Region.wanted ops[i] (yielded ops (fin f).tmps) := by
          unfold Region.wanted
          cases hg : ops[i].guard with
          | none => rfl
          | some g =>
            obtain ⟨j, want⟩ := g
            simp only [yielded]
            cases hj : (ops[j]?).bind (·.dst) with
            | none => rfl
            | some t =>
              have : t ∈ ops[i].looksAt ops := by simp [Oper.looksAt, hg, hj]
              simp [hlook t this]
        unfold wpOp
        rw [ho]
        simp only [hwt]
        have hdt : (ops.toList.take m)[i]? = some ops[i] := by
          rw [List.getElem?_take, if_pos him]
          simp
        have hst := stepsG_at (ops := ops) (P := P) (Q := Q) (R := R) (T := T) (Pv := Pv) (fin := fin) (f := f) (w := w) _ 0 i _ hdt (hstep f w hR)
        rw [Nat.zero_add] at hst
        have hst2 := hst (afterAll_of _ fun x hx hb => ?_) a (wpAny P .any ops Q fuel (listed.setIfInBounds i true)) fun v w' h1 h2 h3 => ?_
        · by_cases hw : Region.wanted ops[i] (yielded ops (fin f).tmps) = true
          · rw [if_pos hw] at hst2 ⊢
            left
            unfold Oper.wp
            rw [he]
            exact hst2
          · rw [if_neg hw] at hst2 ⊢
            exact hst2
        · have hx' : x ∈ ops[i].after := by simpa using hx
          have h4 := Array.all_eq_true'.1 hdi.1.1 x hx'
          have h5 : x.on < i := by simpa [hb] using h4
          exact hPv x.on (by omega) (hdeps x hx' hb)
        · refine ih _ (updF f i v) _ w' (by simpa using hs) (fun j hj1 hj2 => ?_) (closed_set hcl hil (fun j hj => by
            obtain ⟨x, hx, rfl, hb⟩ := (mem_waits ho).1 hj
            exact hdeps x hx hb)) hf' (hmid.put (hget i him ▸ ho) hil hdd v) h1 (fun j hj hl => ?_)
          · rw [set_get hil, if_neg (by omega)]
            exact hge j hj1 hj2
          · by_cases e : j = i
            · subst e
              unfold updF; rw [if_pos rfl]; exact h3
            · rw [set_get hil, if_neg e] at hl
              unfold updF; rw [if_neg e]
              exact hk _ _ _ _ h2 (hPv j hj hl)
  refine wp_region_any hmo (main ops.size _ (fun _ => undef) a0 _ (by simp) (fun i _ _ => ?_) (fun i hi => ?_) ?_ ?_ h0 (fun i hi hl => ?_))
  · by_cases h : i < ops.size <;> simp [h]
  · have : (Array.replicate ops.size false).getD i false = false := by
      by_cases h : i < ops.size <;> simp [h]
    rw [this] at hi; cases hi
  · intro l hnd hl
    exact nodup_le ops.size l hnd (fun i hi => (hl i hi).1)
  · exact ⟨rfl, rfl, fun j o d ho hd hl => by
      have : (Array.replicate ops.size false).getD j false = false := by
        by_cases h : j < ops.size <;> simp [h]
      rw [this] at hl; exact absurd hl (by simp), fun _ _ => rfl⟩
  · have : (Array.replicate ops.size false).getD i false = false := by
      by_cases h : i < ops.size <;> simp [h]
    rw [this] at hl; cases hl
/-- The same: the frame is made out of the one that stands. -/
theorem wp_region_gauto {id : Nat} {w : World} (m : Nat) (hmo : P.follows .mixedOrders = true) (R : World → Prop) (T : World → World → Prop) (Pv : Nat → Value → World → Prop) (fin : (Nat → Value) → Act)
    (hfin : ∀ f, ({ tmps := putF f 0 (ops.toList.take m) a0.tmps, defers := a0.defers } : Act) = fin f)
    (hm : m ≤ ops.size) (hd : depsG ops m = true) (hdd : dstsOk (ops.extract 0 m) = true) (htl : tailOk ops m = true)
    (hk : ∀ i v a b, T a b → Pv i v a → Pv i v b) (h0 : R w.drew)
    (hstep : ∀ (f : Nat → Value) (w : World), R w → StepsG P ops Q R T Pv fin f w 0 (ops.toList.take m))
    (htail : ∀ (f : Nat → Value) (w : World), R w → (∀ i, i < m → Pv i (f i) w) → wpList P ops Q (ops.toList.drop m) (fin f) w) :
    (Code.region id ops true).wp P Q a0 w :=
  wp_region_guards m hmo R T Pv fin hm hd hdd htl (fun f => by rw [← hfin f]) (fun f => by rw [← hfin f]) hk h0 hstep htail
end
end Go.Proofs.YtakldmbbmefnbaaGreat
/- the reference's words: Has (a byte), Step. -/
namespace Go.Proofs.YtakldmbbmefnbaaGreat
open Go.RowKit Go.Sort Go.Proofs
set_option maxRecDepth 100000
set_option maxHeartbeats 1000000

theorem rbit_ok (n : Nat) (hn : n < 64) (w : World) :
    Calls Tryz.prog 131 #[.int .i64 n] w (fun r w' => r = .returned (.int .u64 (2 ^ n : Nat)) ∧ w' = w) := by
  have hpow : ∀ k, k < n → 2 * ((2 ^ k : Nat) : Int) = (2 ^ (k + 1) : Nat) := by
    intro k _
    rw [Nat.pow_succ]; omega
  have hb : ∀ k, k ≤ n → 0 ≤ ((2 ^ k : Nat) : Int) ∧ ((2 ^ k : Nat) : Int) ≤ 9223372036854775808 := by
    intro k hk
    have h1 := Nat.pow_le_pow_right (n := 2) (by decide) (show k ≤ 63 by omega)
    have h2 : (2 : Nat) ^ 63 = 9223372036854775808 := by decide
    rw [h2] at h1
    generalize 2 ^ k = p at *
    omega
  have HP := Lib.hid (And.intro hpow hb)
  clear hpow hb
  go_enter Tryz.func131, Tryz.ntmps131
  go_wp2
  go_loop [5, 3] (fun i v => ∃ k : Nat, k ≤ n ∧ i = .int .i64 k ∧ v = .int .u64 (2 ^ k : Nat)) (fun i _ => n - (intOf i).toNat)
  case atStart => exact ⟨0, Nat.zero_le _, rfl, rfl⟩
  case round =>
    obtain ⟨k, hk, rfl, rfl⟩ := hrel
    by_cases hlt : k < n
    · have hi : (k : Int) < n := by omega
      have h1 := (HP.out.2 (k + 1) (by omega))
      have h2 := HP.out.1 k hlt
      generalize ((2 ^ k : Nat) : Int) = p at *
      generalize hqe : ((2 ^ (k + 1) : Nat) : Int) = q at *
      have HQ := Lib.hid hqe
      clear hqe
      obtain ⟨h0, h1⟩ := h1
      rw [← h2] at h0 h1
      have H2 := Lib.hid h2
      clear h2
      have hp0 : 0 ≤ p := by omega
      have hp1 : p ≤ 4611686018427387904 := by omega
      go_wp2
      go_round
      case rel => exact ⟨k + 1, by omega, by go_num, by rw [H2.out, HQ.out]⟩
      case measure => simp [intOf]; omega
    · have : k = n := by omega
      subst this
      clear HP
      go_wp2
      go_ret
      exact ⟨rfl, rfl⟩

theorem has_div (s : BSet) (b : Nat) : s.has b = decide ((s.word (b / 64)).toNat / 2 ^ (b % 64) % 2 = 1) := by
  unfold BSet.has
  rw [BitVec.getLsbD, Nat.testBit_eq_decide_div_mod_eq]

theorem rhasb_ok (s : BSet) (b : Nat) (hb : b < 256) (w : World) :
    Calls Tryz.prog 74 #[vS s, .int .i64 b] w (fun r w' => r = .returned (.bool (s.has b)) ∧ Below w.heap.size w w') := by
  obtain ⟨W1, hW1⟩ : ∃ W1, w.alloc (.cells #[.int .u64 s.w0.toNat, .int .u64 s.w1.toNat, .int .u64 s.w2.toNat, .int .u64 s.w3.toNat] 69) = W1 := ⟨_, rfl⟩
  have d1 : Below w.heap.size w W1 := hW1 ▸ alloc1 w _
  have b1 : W1.heap[w.heap.size]? = some (.cells #[.int .u64 s.w0.toNat, .int .u64 s.w1.toNat, .int .u64 s.w2.toNat, .int .u64 s.w3.toNat] 69 (0, 0)) := by rw [← hW1]; exact heap_alloc_new w _
  have hq : b / 64 < 4 := by omega
  have hr : b % 64 < 64 := by omega
  have hcell : W1.cell? ⟨w.heap.size, b / 64, none⟩ = some (.int .u64 ((s.word (b / 64)).toNat : Int)) := by
    rw [cell_at b1]
    have := word_at s (b / 64) hq
    simpa using this
  have hbit := fun W => rbit_ok (b % 64) hr W
  have hword := (s.word (b / 64)).isLt
  have hd := has_div s b
  have h1 : ((b : Int) / 64) = ((b / 64 : Nat) : Int) := by omega
  have h2 : ((b : Int) % 64) = ((b % 64 : Nat) : Int) := by omega
  have hpp : 0 < 2 ^ (b % 64) := Nat.pow_pos (by decide)
  have hpl : (2 ^ (b % 64) : Nat) ≤ 9223372036854775808 := by
    have h1 := Nat.pow_le_pow_right (n := 2) (by decide) (show b % 64 ≤ 63 by omega)
    have h2 : (2 : Nat) ^ 63 = 9223372036854775808 := by decide
    rw [h2] at h1
    exact h1
  generalize hW : (s.word (b / 64)).toNat = W0 at *
  generalize 2 ^ (b % 64) = P0 at *
  generalize hres : s.has b = res at *
  generalize b / 64 = bq at *
  generalize b % 64 = br at *
  have HD := Lib.hid hd
  have hbi : (b : Int) < 256 := by omega
  have e1 : IntKind.u64.wrap ((W0 : Int) / (P0 : Int)) = (W0 : Int) / (P0 : Int) := by
    refine IntWalk.u64_in _ ?_
    rw [← Int.natCast_ediv]
    have := Nat.div_le_self W0 P0
    generalize W0 / P0 = z at *
    omega
  clear hd hW hres hword
  unfold vS
  go_enter Tryz.func74, Tryz.ntmps74
  go_wp2
  go_quiet ((go_at_call 131; exact Calls.quiet_of_same (hbit _)))
  go_wp2
  have hfin : (((W0 : Int) / P0).tmod 2 == 1) = res := by
    rw [HD.out]
    have h : ((W0 : Int) / P0).tmod 2 = ((W0 / P0 % 2 : Nat) : Int) := by rw [← Int.natCast_ediv]; rfl
    rw [h, Bool.eq_iff_iff]
    simp
    omega
  go_ret
  exact ⟨congrArg (fun z => Ending.returned (.bool z)) hfin, below_drewN d1 _⟩
end Go.Proofs.YtakldmbbmefnbaaGreat
