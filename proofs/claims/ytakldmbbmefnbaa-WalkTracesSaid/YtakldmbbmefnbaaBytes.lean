/- Rows of bytes. -/
import Derived.Test.YtakldmbbmefnbaaGreedy
import Derived.Laws.BytesString
namespace Go.Proofs.Ytakldmbbmefnbaa
open Go.RowKit Go.Sort Go.Proofs

def encU (b : UInt8) : List Value := [.int .u8 b.toNat]
theorem encU_len (b : UInt8) : (encU b).length = 1 := rfl
theorem encU_one (b : UInt8) : ∀ u ∈ encU b, u.oneCell' = true := by simp [encU, Value.oneCell']
theorem info_u8 : (Try.prog.info? 5).map (fun i => (i.zero, i.size, i.bytes)) = some (some (.int .u8 0), 1, 1) := by kernel_rfl

theorem Own.at_U {e : TypeId} {w : World} {base : Nat} {v : Value} {xs : List UInt8} (h : Own encU 1 e w base v xs) (h0 : 0 < xs.length) : ∃ b c, v = .slice (some ⟨b, 0, none⟩) xs.length c ∧ blk v = some b ∧ ∀ k (h : k < xs.length), w.cell? ⟨b, k, none⟩ = some (.int .u8 xs[k].toNat) := by
  rcases h with ⟨rfl, _⟩ | ⟨b, cap, cur, rfl, hb, hp, h1, h2, hg, hs, ht⟩
  · exact absurd h0 (Nat.lt_irrefl 0)
  · refine ⟨b, cap, rfl, by obtain ⟨m, rfl⟩ : ∃ m, cap = m + 1 := ⟨cap - 1, by omega⟩; rfl, fun k hk => ?_⟩
    rw [cell_at hg k, ← Array.getElem?_toList]
    have h3 := flatMap_get encU_len xs k xs[k] 0 (.int .u8 xs[k].toNat) (List.getElem?_eq_getElem hk) rfl
    rw [← ht, Nat.mul_one, Nat.add_zero, List.getElem?_take_of_lt (by omega), Nat.mul_one] at h3
    exact h3

/-- 'string(b)'. -/
theorem conv_back {w : World} {base : Nat} {v : Value} {xs : List UInt8} (h : Own encU 1 5 w base v xs) : Sem.run Try.prog (convert 45 9 v) w = .ok (encStr xs) w := by
  rcases Nat.eq_zero_or_pos xs.length with h0 | h0
  · have : xs = [] := List.eq_nil_of_length_eq_zero h0
    subst this
    obtain ⟨A, c, rfl, _⟩ := h.form
    cases A with
    | some a => exact run_convert_bytes_back w _ _ _ a c [] Try.underlying45 Try.underlying5 Try.underlying9 (fun j hj => absurd hj (Nat.not_lt_zero j))
    | none =>
      rw [List.length_nil, run_convert_bytes_string w 45 9 5 none 0 c Try.underlying45 Try.underlying5 Try.underlying9]
      simp [Conv.bytesToString]
      rfl
  · obtain ⟨b, c, rfl, _, hc⟩ := h.at_U h0
    exact run_convert_bytes_back w _ _ _ ⟨b, 0, none⟩ c xs Try.underlying45 Try.underlying5 Try.underlying9 (fun j hj => by
      have := hc j hj
      have ha : (⟨b, 0, none⟩ : Addr).add j = ⟨b, j, none⟩ := by unfold Addr.add; split <;> simp_all
      rw [ha]; exact this)
end Go.Proofs.Ytakldmbbmefnbaa
