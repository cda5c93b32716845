/- Where one comes to by pairs; no program in sight. -/
import Derived.Test.YtakldmbbmefnbaaWalk3
namespace Go.Proofs.Ytakldmbbmefnbaa

/-- To where one comes from l by pairs. -/
inductive Goes (ps : List (Int × Int)) (l : List Int) : Int → Prop
  | start {s : Int} (h : s ∈ l) : Goes ps l s
  | step {r s : Int} (h : Goes ps l r) (hp : (r, s) ∈ ps) : Goes ps l s

open Classical in
/-- All of these, rising. -/
noncomputable def cl (n : Nat) (ps : List (Int × Int)) (l : List Int) : List Int := ((List.range n).map (fun i : Nat => (i : Int))).filter (fun s => decide (Goes ps l s))

def Strict (l : List Int) : Prop := l.Pairwise (· < ·)

theorem strict_ext {a b : List Int} (ha : Strict a) (hb : Strict b) (h : ∀ s, s ∈ a ↔ s ∈ b) : a = b := by
  induction a generalizing b with
  | nil =>
    cases b with
    | nil => rfl
    | cons y ys => exact absurd ((h y).2 (by simp)) (by simp)
  | cons x xs ih =>
    cases b with
    | nil => exact absurd ((h x).1 (by simp)) (by simp)
    | cons y ys =>
      unfold Strict at ha hb
      rw [List.pairwise_cons] at ha hb
      have hxy : x = y := by
        have h1 := (h x).1 (by simp)
        have h2 := (h y).2 (by simp)
        rcases List.mem_cons.1 h1 with e | e
        · exact e
        · rcases List.mem_cons.1 h2 with e2 | e2
          · exact e2.symm
          · have := hb.1 _ e; have := ha.1 _ e2; omega
      subst hxy
      congr 1
      refine ih ha.2 hb.2 fun s => ?_
      constructor
      · intro hs
        rcases List.mem_cons.1 ((h s).1 (List.mem_cons_of_mem _ hs)) with e | e
        · subst e; have := ha.1 _ hs; omega
        · exact e
      · intro hs
        rcases List.mem_cons.1 ((h s).2 (List.mem_cons_of_mem _ hs)) with e | e
        · subst e; have := hb.1 _ hs; omega
        · exact e

theorem strict_range (n : Nat) : Strict ((List.range n).map (fun i : Nat => (i : Int))) := by
  unfold Strict
  rw [List.pairwise_map]
  exact List.pairwise_lt_range.imp (fun h => by omega)
theorem cl_strict (n : Nat) (ps : List (Int × Int)) (l : List Int) : Strict (cl n ps l) := (strict_range n).filter _
theorem mem_cl {n : Nat} {ps : List (Int × Int)} {l : List Int} {s : Int} : s ∈ cl n ps l ↔ (0 ≤ s ∧ s < n) ∧ Goes ps l s := by
  unfold cl
  rw [List.mem_filter]
  simp only [List.mem_map, List.mem_range, decide_eq_true_eq]
  constructor
  · rintro ⟨⟨i, hi, rfl⟩, h⟩; exact ⟨by omega, h⟩
  · rintro ⟨h1, h2⟩; exact ⟨⟨s.toNat, by omega, by omega⟩, h2⟩

theorem mem_meet {ws : List Int} {s t : Int} : t ∈ meet ws s ↔ t ∈ ws ∨ t = s := by
  unfold meet
  split
  · rename_i h
    constructor
    · exact .inl
    · rintro (h1 | rfl)
      · exact h1
      · simpa using h
  · simp
theorem meet_get {ws : List Int} {s : Int} {i : Nat} (h : i < ws.length) : (meet ws s)[i]? = ws[i]? := by
  unfold meet
  split
  · rfl
  · rw [List.getElem?_append_left h]
theorem meet_len {ws : List Int} {s : Int} : ws.length ≤ (meet ws s).length := by
  unfold meet
  split <;> simp

/-- What has been met, so far. -/
structure BInv (n : Nat) (ps : List (Int × Int)) (l ws : List Int) (k : Nat) : Prop where
  nodup : ws.Nodup
  bound : ∀ s ∈ ws, 0 ≤ s ∧ s < n
  goes : ∀ s ∈ ws, Goes ps l s
  at_ : k ≤ ws.length
  done : ∀ i, i < k → ∀ q, ws[i]? = some q → ∀ t, (q, t) ∈ ps → t ∈ ws

theorem BInv.start (n : Nat) (ps : List (Int × Int)) (l : List Int) : BInv n ps l [] 0 := ⟨List.nodup_nil, by simp, by simp, Nat.le_refl _, fun i hi => absurd hi (Nat.not_lt_zero i)⟩
theorem BInv.meet {n : Nat} {ps : List (Int × Int)} {l ws : List Int} {k : Nat} (h : BInv n ps l ws k) {s : Int} (h0 : 0 ≤ s) (h1 : s < n) (hg : Goes ps l s) : BInv n ps l (meet ws s) k := by
  refine ⟨?_, ?_, ?_, Nat.le_trans h.at_ meet_len, ?_⟩
  · unfold Go.Proofs.Ytakldmbbmefnbaa.meet
    split
    · exact h.nodup
    · rename_i hc
      rw [List.nodup_append]
      refine ⟨h.nodup, by simp, fun a ha b hb => ?_⟩
      rw [List.mem_singleton] at hb
      subst hb
      rintro rfl
      exact hc (by simpa using ha)
  · intro t ht
    rcases mem_meet.1 ht with h2 | rfl
    · exact h.bound t h2
    · exact ⟨h0, h1⟩
  · intro t ht
    rcases mem_meet.1 ht with h2 | rfl
    · exact h.goes t h2
    · exact hg
  · intro i hi q hq t hp
    rw [meet_get (Nat.lt_of_lt_of_le hi h.at_)] at hq
    exact mem_meet.2 (.inl (h.done i hi q hq t hp))
theorem BInv.next {n : Nat} {ps : List (Int × Int)} {l ws : List Int} {k : Nat} (h : BInv n ps l ws k) (hk : k < ws.length) (hd : ∀ t ∈ nexts ps ws[k], t ∈ ws) : BInv n ps l ws (k + 1) := by
  refine ⟨h.nodup, h.bound, h.goes, hk, fun i hi q hq t hp => ?_⟩
  by_cases e : i = k
  · subst e
    rw [List.getElem?_eq_getElem hk] at hq
    cases hq
    exact hd t (mem_nexts.2 hp)
  · exact h.done i (by omega) q hq t hp

theorem nodup_range : ∀ (n : Nat) (l : List Nat), l.Nodup → (∀ i ∈ l, i < n) → l.length ≤ n
  | 0, l, _, h => by
    cases l with
    | nil => exact Nat.le_refl _
    | cons x xs => exact absurd (h x (by simp)) (Nat.not_lt_zero _)
  | n + 1, l, hn, h => by
    by_cases hm : n ∈ l
    · have h1 := nodup_range n (l.erase n) (hn.erase n) (fun i hi => by
        have h2 := hn.mem_erase_iff.1 hi
        have := h i h2.2
        have := h2.1
        omega)
      have := List.length_erase_of_mem hm
      omega
    · have := nodup_range n l hn (fun i hi => by
        have := h i hi
        have : i ≠ n := fun e => hm (e ▸ hi)
        omega)
      omega
theorem BInv.len {n : Nat} {ps : List (Int × Int)} {l ws : List Int} {k : Nat} (h : BInv n ps l ws k) : ws.length ≤ n := by
  have := nodup_range n (ws.map Int.toNat) (by
    unfold List.Nodup
    rw [List.pairwise_map]
    refine List.Pairwise.imp_of_mem ?_ h.nodup
    intro a b ha hb hab e
    have := h.bound a ha
    have := h.bound b hb
    exact hab (by omega)) (fun i hi => by
    obtain ⟨s, hs, rfl⟩ := List.mem_map.1 hi
    have := h.bound s hs
    omega)
  simpa using this
theorem BInv.finish {n : Nat} {ps : List (Int × Int)} {l ws : List Int} (h : BInv n ps l ws ws.length) (hl : ∀ s ∈ l, s ∈ ws) (s : Int) : s ∈ ws ↔ Goes ps l s := by
  refine ⟨h.goes s, fun hg => ?_⟩
  induction hg with
  | start hs => exact hl _ hs
  | step _ hp ih =>
    obtain ⟨i, hi, e⟩ := List.getElem_of_mem ih
    exact h.done i hi _ (by rw [List.getElem?_eq_getElem hi, e]) _ hp
theorem BInv.cl {n : Nat} {ps : List (Int × Int)} {l ws ys : List Int} (h : BInv n ps l ws ws.length) (hl : ∀ s ∈ l, s ∈ ws) (hy : Strict ys) (hm : ∀ s, s ∈ ys ↔ s ∈ ws) : ys = cl n ps l := by
  refine strict_ext hy (cl_strict ..) fun s => ?_
  rw [hm, mem_cl]
  exact ⟨fun hs => ⟨h.bound s hs, h.goes s hs⟩, fun hs => (h.finish hl s).2 hs.2⟩
end Go.Proofs.Ytakldmbbmefnbaa
