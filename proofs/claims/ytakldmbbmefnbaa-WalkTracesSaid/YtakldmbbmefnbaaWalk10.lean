/- walk: nearest, far. -/
import Derived.Test.YtakldmbbmefnbaaWalk9
namespace Go.Proofs.Ytakldmbbmefnbaa
open Go.RowKit
set_option maxRecDepth 100000
set_option maxHeartbeats 1000000

/-- The least number of some states. -/
def near (D : List Int) (l : List Int) (none_ : Int) : Int := l.foldl (fun m s => min m (D.getD s.toNat 0)) none_

theorem nearest_ok (vd vl : Value) (D l : List Int) (n : Nat) (none_ : Int) (w : World) (hd : Ints w w.heap.size vd D) (hl : Ints w w.heap.size vl l) (hn : D.length = n) (hin : ∀ s ∈ l, 0 ≤ s ∧ s < n) (hll : l.length ≤ 1000000) (hnn : n ≤ 1000) :
    Calls Try.prog 90 #[vd, vl, .int .i64 none_] w (fun r w' => r = .returned (.int .i64 (near D l none_)) ∧ w' = w) := by
  obtain ⟨A0, c0, rfl, hr⟩ := id hd
  obtain ⟨A1, c1, rfl, hr1⟩ := id hl
  clear hd hl
  go_enter Try.func90, Try.ntmps90
  go_wp2
  go_loop [11, 2] (fun i m => ∃ k : Nat, k ≤ l.length ∧ i = .int .i64 k ∧ m = .int .i64 (near D (l.take k) none_)) (fun i _ => l.length - (intOf i).toNat)
  case atStart => exact ⟨0, Nat.zero_le _, rfl, rfl⟩
  case round =>
    obtain ⟨k, hk, rfl, rfl⟩ := hrel
    by_cases hlt : k < l.length
    · obtain ⟨b1, o1, rfl, hb1, hc1⟩ := hr1 (by omega)
      have hcell := cell1 encI_eq hc1 hlt
      have hs := hin _ (List.getElem_mem hlt)
      obtain ⟨s, hsx⟩ : ∃ s : Nat, l[k] = s := ⟨l[k].toNat, by omega⟩
      rw [hsx] at hcell
      have hsn : s < D.length := by omega
      obtain ⟨b0, o0, rfl, hb0, hc0⟩ := hr (by omega)
      have hcell0 := cell1 encI_eq hc0 hsn
      have htk : near D (l.take (k + 1)) none_ = min (near D (l.take k) none_) D[s] := by
        unfold near
        rw [List.take_succ_eq_append_getElem hlt, List.foldl_append, hsx]
        simp [List.getD, hsn]
      have HT := Lib.hid htk
      have hi1 : (s : Int) < D.length := by omega
      have hi2 : (k : Int) < l.length := by omega
      generalize near D (l.take k) none_ = m at *
      generalize D[s] = x at *
      clear hr hr1 hc0 hc1 htk hin hs hsx
      go_wp2
      go_round
      case rel => exact ⟨k + 1, by omega, by go_num, by rw [HT.out]⟩
      case measure => simp [intOf]; omega
    · clear hr hr1
      have : k = l.length := by omega
      subst this
      rw [List.take_length]
      have hi2 : ¬ (l.length : Int) < l.length := by omega
      generalize hm : near D l none_ = m
      have HM := Lib.hid hm
      clear hm
      go_wp2
      go_ret
      exact ⟨by rw [HM.out]; rfl, rfl⟩

/-- From a state to a final with so many bytes. -/
inductive Far (a : A) : Int → Nat → Prop
  | fin {s : Int} (h : s ∈ a.final) : Far a s 0
  | free {e : E} {c : Nat} (h : e ∈ a.edges) (hf : e.free = true) (hr : Far a e.dst c) : Far a e.src c
  | byte {e : E} {c : Nat} (h : e ∈ a.edges) (hf : e.free = false) (hr : Far a e.dst c) : Far a e.src (c + 1)

def cost (e : E) : Int := if e.free then 0 else 1

/-- What the row of distances holds while it is made. -/
structure DInv (a : A) (n : Nat) (D : List Int) : Prop where
  len : D.length = n
  bound : ∀ (s : Nat) (h : s < D.length), 0 ≤ D[s] ∧ D[s] ≤ n
  sound : ∀ (s : Nat) (h : s < D.length), D[s] = n ∨ Far a s D[s].toNat
  fin : ∀ s : Nat, (s : Int) ∈ a.final → ∀ h : s < D.length, D[s] = 0

def sumD (D : List Int) : Nat := (D.map Int.toNat).sum
def rowSum (w : World) (b : Nat) : Nat := match w.heap[b]? with
  | some (.cells cs _ _) => (cs.toList.map (fun v => (intOf v).toNat)).sum
  | _ => 0
theorem rowSum_eq {w : World} {b : Nat} {D : List Int} {t : TypeId} {z : Nat × Nat} (h : w.heap[b]? = some (.cells (D.map (Value.int .i64)).toArray t z)) : rowSum w b = sumD D := by
  unfold rowSum sumD
  rw [h]
  simp only [List.map_map]
  rfl
theorem sumD_set (D : List Int) (i : Nat) (x : Int) (h : i < D.length) (h0 : 0 ≤ x) (hx : x < D[i]) : sumD (D.set i x) < sumD D := by
  unfold sumD
  induction D generalizing i with
  | nil => simp at h
  | cons y ys ih =>
    cases i with
    | zero =>
      simp only [List.getElem_cons_zero] at hx
      simp only [List.set_cons_zero, List.map_cons, List.sum_cons]
      omega
    | succ j =>
      simp only [List.getElem_cons_succ] at hx
      have := ih j (by simpa using h) hx
      simp only [List.set_cons_succ, List.map_cons, List.sum_cons]
      omega

theorem DInv.set {a : A} {n : Nat} {D : List Int} (h : DInv a n D) {e : E} (he : e ∈ a.edges) {s t : Nat} (hs : e.src = s) (ht : e.dst = t) (hsl : s < D.length) (htl : t < D.length) (hlt : D[t] + cost e < D[s]) : DInv a n (D.set s (D[t] + cost e)) := by
  have hc : 0 ≤ cost e := by unfold cost; split <;> omega
  have hb := h.bound t htl
  have hbs := h.bound s hsl
  have hft : Far a t D[t].toNat := by
    rcases h.sound t htl with h1 | h1
    · omega
    · exact h1
  have hfs : Far a s (D[t] + cost e).toNat := by
    rw [← hs]
    rw [← ht] at hft
    unfold cost
    by_cases hf : e.free = true
    · rw [if_pos hf, Int.add_zero]
      exact .free he hf hft
    · rw [if_neg hf]
      have : (D[t] + 1).toNat = D[t].toNat + 1 := by omega
      rw [this]
      exact .byte he (by simpa using hf) hft
  refine ⟨by simp [h.len], fun q hq => ?_, fun q hq => ?_, fun q hq hq2 => ?_⟩
  · by_cases e1 : s = q
    · subst e1; rw [List.getElem_set_self]; omega
    · rw [List.getElem_set_ne e1]; exact h.bound q _
  · by_cases e1 : s = q
    · subst e1; rw [List.getElem_set_self]; exact .inr hfs
    · rw [List.getElem_set_ne e1]; exact h.sound q _
  · by_cases e1 : s = q
    · subst e1
      have := h.fin s hq hsl
      omega
    · rw [List.getElem_set_ne e1]; exact h.fin q hq _

/-- The row of distances, when it is done. -/
structure Dist (a : A) (n : Nat) (D : List Int) : Prop extends DInv a n D where
  edge : ∀ e ∈ a.edges, ∀ (s t : Nat), e.src = s → e.dst = t → ∀ (hs : s < D.length) (ht : t < D.length), D[s] ≤ D[t] + cost e

theorem Dist.least {a : A} {n : Nat} {D : List Int} (h : Dist a n D) (hb : ∀ e ∈ a.edges, (0 ≤ e.src ∧ e.src < n) ∧ 0 ≤ e.dst ∧ e.dst < n) {s : Int} {c : Nat} (hf : Far a s c) : ∀ (q : Nat), s = q → ∀ hq : q < D.length, D[q] ≤ c := by
  induction hf with
  | fin hs =>
    rintro q rfl hq
    rw [h.fin q hs hq]
    omega
  | @free e c he hfr hr ih =>
    rintro q hsq hq
    obtain ⟨_, h3, h4⟩ := hb e he
    have hl := h.len
    have h5 := ih e.dst.toNat (by omega) (by omega)
    have h6 := h.edge e he q e.dst.toNat hsq (by omega) hq (by omega)
    have : cost e = 0 := by simp [cost, hfr]
    omega
  | @byte e c he hfr hr ih =>
    rintro q hsq hq
    obtain ⟨_, h3, h4⟩ := hb e he
    have hl := h.len
    have h5 := ih e.dst.toNat (by omega) (by omega)
    have h6 := h.edge e he q e.dst.toNat hsq (by omega) hq (by omega)
    have : cost e = 1 := by simp [cost, hfr]
    omega
end Go.Proofs.Ytakldmbbmefnbaa
