/- Rows of rows; a string's bytes. -/
import Derived.Test.YtakldmbbmefnbaaWalk6
import Derived.Sort.EncStr
import Derived.Laws.IdiomStrings
namespace Go.Proofs.Ytakldmbbmefnbaa
open Go.RowKit Go.Sort Go.Proofs

abbrev Ro := Option Addr × Nat × Nat
abbrev vR (r : Ro) : Value := .slice r.1 r.2.1 r.2.2
def encR (r : Ro) : List Value := [.slice r.1 r.2.1 r.2.2]
theorem encR_len (r : Ro) : (encR r).length = 1 := rfl
theorem encR_one (r : Ro) : ∀ u ∈ encR r, u.oneCell' = true := by simp [encR, Value.oneCell']

/-- Each value is a row of one's own, of these numbers. -/
def Rws (w : World) (base : Nat) (rs : List Ro) (ls : List (List Int)) : Prop :=
  rs.length = ls.length ∧ ∀ (i : Nat) (h : i < rs.length) (h' : i < ls.length), Own encI 1 3 w base (vR rs[i]) ls[i]

section
variable {w w' : World} {base : Nat} {rs : List Ro} {ls : List (List Int)}
theorem Rws.below (h : Rws w base rs ls) (hb : Below w.heap.size w w') : Rws w' base rs ls := ⟨h.1, fun i h1 h2 => (h.2 i h1 h2).below hb⟩
theorem Rws.lower (h : Rws w base rs ls) {base' : Nat} (hb : base' ≤ base) : Rws w base' rs ls := ⟨h.1, fun i h1 h2 => (h.2 i h1 h2).lower hb⟩
theorem Rws.grown (h : Rws w base rs ls) {row : Option Nat} (hg : w.grownBy w' row) (hr : ∀ k, row = some k → ∃ cs z, w.heap[k]? = some (.cells cs 22 z)) : Rws w' base rs ls :=
  ⟨h.1, fun i h1 h2 => (h.2 i h1 h2).kept hg (fun k hk e => by
    obtain ⟨cs, z, hc⟩ := hr k e
    exact own_ne (h.2 i h1 h2) hc (by decide) hk)⟩
theorem Rws.nil (w : World) (base : Nat) : Rws w base [] [] := ⟨rfl, fun i h => absurd h (Nat.not_lt_zero i)⟩
theorem Rws.add (h : Rws w base rs ls) {r : Ro} {l : List Int} (ho : Own encI 1 3 w base (vR r) l) : Rws w base (rs ++ [r]) (ls ++ [l]) := by
  refine ⟨by simp [h.1], fun i h1 h2 => ?_⟩
  by_cases hi : i < rs.length
  · have hi' : i < ls.length := by rw [← h.1]; exact hi
    rw [List.getElem_append_left hi, List.getElem_append_left hi']
    exact h.2 i hi hi'
  · have h3 : i = rs.length := by simp at h1; omega
    subst h3
    have h4 : rs.length = ls.length := h.1
    rw [List.getElem_append_right (Nat.le_refl _), List.getElem_append_right (by omega)]
    simpa using ho
end

theorem own_row {e : TypeId} {w : World} {base : Nat} {v : Value} {rs : List Ro} (h : Own encR 1 e w base v rs) : ∀ k, blk v = some k → ∃ cs z, w.heap[k]? = some (.cells cs e z) := by
  intro k hk
  rcases h with ⟨rfl, A, rfl⟩ | ⟨b, cap, cur, rfl, hb, hp, _, _, hg, _⟩
  · cases A <;> simp [blk] at hk
  · obtain ⟨m, rfl⟩ : ∃ m, cap = m + 1 := ⟨cap - 1, by omega⟩
    simp [blk] at hk
    subst hk
    exact ⟨_, _, hg⟩

/-- '[]byte(s)': a new row of the string's bytes. -/
theorem conv_bytes (W : World) (word : List UInt8) : ∃ cc W2, Sem.run Try.prog (convert 9 45 (encStr word)) W = .ok (.slice (some ⟨W.heap.size, 0, none⟩) word.length cc) W2 ∧ Below W.heap.size W W2 ∧
    W2.heap.size = W.heap.size + 1 ∧ (∀ k (h : k < word.length), W2.cell? ⟨W.heap.size, k, none⟩ = some (.int .u8 word[k].toNat)) ∧ word.length ≤ cc := by
  have h := run_bytes_of_string (P := Try.prog) W 9 45 5 ⟨word.toArray⟩ Try.underlying9 Try.underlying45 Try.underlying5
  refine ⟨_, _, h, (Below.refl _ W).drew.alloc (Nat.le_refl _) _, by simp, fun k hk => ?_, ?_⟩
  · have := World.cell?_alloc_mark W.drew (bytesRow ⟨word.toArray⟩ (grownCap W (ByteArray.size ⟨word.toArray⟩) 0 5)) 5 ((bytesRow ⟨word.toArray⟩ (grownCap W (ByteArray.size ⟨word.toArray⟩) 0 5)).size, (bytesRow ⟨word.toArray⟩ (grownCap W (ByteArray.size ⟨word.toArray⟩) 0 5)).size + 1) k
    refine Eq.trans this ?_
    have h2 := bytesRow_at ⟨word.toArray⟩ (grownCap W (ByteArray.size ⟨word.toArray⟩) 0 5) k (by simpa using hk)
    simpa using h2
  · exact grownCap_ge W _ 0 _
end Go.Proofs.Ytakldmbbmefnbaa
