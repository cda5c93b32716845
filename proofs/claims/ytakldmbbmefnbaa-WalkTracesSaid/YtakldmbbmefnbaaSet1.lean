/- set.Has and set.Count, over math/bits.OnesCount64. -/
import Derived.Test.YtakldmbbmefnbaaProg
import Derived.Test.YtakldmbbmefnbaaPop
namespace Go.Proofs.Ytakldmbbmefnbaa
open Go.RowKit
theorem wrap_u64 (n : Nat) (h : n < 18446744073709551616) : IntKind.u64.wrap (n : Int) = n := by
  show (n : Int) % 18446744073709551616 = n
  omega
theorem and_u64 (a b : Nat) (ha : a < 18446744073709551616) (hb : b < 18446744073709551616) : bits .and .u64 (a : Int) (b : Int) = ((a &&& b : Nat) : Int) := u64_and_nat a b ha hb

theorem and_i64 (a b : Nat) (ha : a < 9223372036854775808) (hb : b < 9223372036854775808) : bits .and .i64 (a : Int) (b : Int) = ((a &&& b : Nat) : Int) := by
  have ofn : ∀ n : Nat, n < 9223372036854775808 → (BitVec.ofInt 64 (n : Int)).toNat = n := fun n hn => by
    rw [BitVec.ofInt_natCast, BitVec.toNat_ofNat]; exact Nat.mod_eq_of_lt (by omega)
  have hx : a &&& b < 9223372036854775808 := Nat.lt_of_le_of_lt Nat.and_le_left ha
  show IntKind.i64.wrap ((BitVec.ofInt 64 (a : Int) &&& BitVec.ofInt 64 (b : Int)).toNat : Int) = _
  rw [BitVec.toNat_and, ofn a ha, ofn b hb, IntKind.wrap_i64]
  omega

theorem ones_ok (x : BitVec 64) (w : World) :
    Calls Try.prog 72 #[.int .u64 x.toNat] w (fun r w' => r = .returned (.int .i64 (popc x)) ∧ w' = w) := by
  have hx : x.toNat < 18446744073709551616 := x.isLt
  obtain ⟨a, b, c, d, f, g, f1, f2, e3, ed, ef, eg, hq, ha, hb, hc⟩ := ones_parts x
  generalize x.toNat = n at *
  generalize popc x = p at *
  have r1 : IntKind.u64.wrap (bits BinOp.and IntKind.u64 ((n : Int) / 2) 6148914691236517205 + bits BinOp.and IntKind.u64 (n : Int) 6148914691236517205) = (a : Int) := by
    have h1 := and_u64 (n / 2) 6148914691236517205 (by omega) (by decide)
    have h2 := and_u64 n 6148914691236517205 hx (by decide)
    have h3 : bits BinOp.and IntKind.u64 ((n : Int) / 2) 6148914691236517205 + bits BinOp.and IntKind.u64 (n : Int) 6148914691236517205 = ((a : Nat) : Int) := by
      rw [show ((n : Int) / 2) = ((n / 2 : Nat) : Int) by omega]
      rw [show (6148914691236517205 : Int) = ((6148914691236517205 : Nat) : Int) from rfl, h1, h2, ← f1]; simp
    rw [h3, wrap_u64 _ (by omega)]
  have r2 : IntKind.u64.wrap (bits BinOp.and IntKind.u64 ((a : Int) / 4) 3689348814741910323 + bits BinOp.and IntKind.u64 (a : Int) 3689348814741910323) = (b : Int) := by
    have h1 := and_u64 (a / 4) 3689348814741910323 (by omega) (by decide)
    have h2 := and_u64 a 3689348814741910323 (by omega) (by decide)
    have h3 : bits BinOp.and IntKind.u64 ((a : Int) / 4) 3689348814741910323 + bits BinOp.and IntKind.u64 (a : Int) 3689348814741910323 = ((b : Nat) : Int) := by
      rw [show ((a : Int) / 4) = ((a / 4 : Nat) : Int) by omega]
      rw [show (3689348814741910323 : Int) = ((3689348814741910323 : Nat) : Int) from rfl, h1, h2, ← f2]; simp
    rw [h3, wrap_u64 _ (by omega)]
  have r3 : bits BinOp.and IntKind.u64 (IntKind.u64.wrap ((b : Int) / 16 + (b : Int))) 1085102592571150095 = (c : Int) := by
    rw [show ((b : Int) / 16 + (b : Int)) = ((b / 16 + b : Nat) : Int) by omega, wrap_u64 _ (by omega)]
    have h1 := and_u64 (b / 16 + b) 1085102592571150095 (by omega) (by decide)
    rw [show (1085102592571150095 : Int) = ((1085102592571150095 : Nat) : Int) from rfl, h1, e3]
  have r4 : IntKind.u64.wrap ((c : Int) + (c : Int) / 256) = (d : Int) := by
    rw [show ((c : Int) + (c : Int) / 256) = ((c + c / 256 : Nat) : Int) by omega, wrap_u64 _ (by omega), ed]
  have r5 : IntKind.u64.wrap ((d : Int) + (d : Int) / 65536) = (f : Int) := by
    rw [show ((d : Int) + (d : Int) / 65536) = ((d + d / 65536 : Nat) : Int) by omega, wrap_u64 _ (by omega), ef]
  have r6 : IntKind.u64.wrap ((f : Int) + (f : Int) / 4294967296) = (g : Int) := by
    rw [show ((f : Int) + (f : Int) / 4294967296) = ((f + f / 4294967296 : Nat) : Int) by omega, wrap_u64 _ (by omega), eg]
  have hg : g < 9223372036854775808 := by omega
  clear f1 f2 e3 ed ef eg ha hb hc hx
  have HQ := Lib.hid hq
  clear hq
  go_enter Try.func72, Try.ntmps72
  go_wp2
  go_ret
  refine ⟨?_, rfl⟩
  have h1 := and_i64 g 127 hg (by decide)
  have h2 : g &&& 127 = g % 128 := Nat.and_two_pow_sub_one_eq_mod g 7
  rw [h2, HQ.out] at h1
  exact congrArg (fun z => Ending.returned (.int .i64 z)) h1

theorem has_ok (s : BSet) (b : Nat) (hb : b < 256) (w : World) :
    Calls Try.prog 101 #[vS s, .int .u8 b] w (fun r w' => r = .returned (.bool (s.has b)) ∧ Below w.heap.size w w') := by
  unfold vS
  have hx := word_at s (b / 64) (by omega)
  have hlt : (s.word (b / 64)).toNat < 18446744073709551616 := (s.word (b / 64)).isLt
  have hv : (bits BinOp.and IntKind.u64 ((s.word (b / 64)).toNat / 2 ^ (b % 64) : Int) 1 == 1) = s.has b := by
    have h1 := and_u64 ((s.word (b / 64)).toNat / 2 ^ (b % 64)) 1 (Nat.lt_of_le_of_lt (Nat.div_le_self _ _) hlt) (by decide)
    have h2 : (((s.word (b / 64)).toNat : Int) / 2 ^ (b % 64)) = (((s.word (b / 64)).toNat / 2 ^ (b % 64) : Nat) : Int) := by simp
    rw [h2, show (1 : Int) = ((1 : Nat) : Int) from rfl, h1]
    unfold BSet.has
    rw [Bool.eq_iff_iff]
    simp only [beq_iff_eq, Int.natCast_inj]
    rw [BitVec.getLsbD, Nat.testBit, Nat.shiftRight_eq_div_pow]
    rw [Nat.and_comm]
    have := Nat.and_one_is_mod ((s.word (b / 64)).toNat / 2 ^ (b % 64))
    rw [Nat.and_comm] at this
    rw [this]
    have := Nat.mod_lt ((s.word (b / 64)).toNat / 2 ^ (b % 64)) (show 0 < 2 by decide)
    simp
  have HV := Lib.hid hv
  clear hv hlt
  go_enter Try.func101, Try.ntmps101
  go_wp2
  go_ret
  exact ⟨congrArg (fun z => Ending.returned (.bool z)) HV.out, (Below.refl _ _).alloc (Nat.le_refl _) _⟩

def cnt (s : BSet) : Nat → Nat
  | 0 => 0
  | k + 1 => cnt s k + popc (s.word k)
theorem cnt_le (s : BSet) : ∀ k, cnt s k ≤ 64 * k
  | 0 => Nat.le_refl _
  | k + 1 => by have := cnt_le s k; have := popc_le (s.word k); simp only [cnt]; omega
theorem cnt_all (s : BSet) : cnt s 4 = s.count := by simp [cnt, BSet.count, BSet.word]

theorem index_word (s : BSet) (k : Nat) (hk : k < 4) : ∀ w, (Instr.index 53 (.agg #[.int .u64 s.w0.toNat, .int .u64 s.w1.toNat, .int .u64 s.w2.toNat, .int .u64 s.w3.toNat]) (.int .i64 k)).run Try.prog w = .ok (.int .u64 (s.word k).toNat) w := by
  intro w
  have hx := word_at s k hk
  have hi : ¬ 4 ≤ k := by omega
  simp [Instr.index, asIntOf, go_sem, Try.sizeOf51, Try.isAgg51, part, hx, hi]

theorem count_ok (s : BSet) (w : World) :
    Calls Try.prog 26 #[vS s] w (fun r w' => r = .returned (.int .i64 s.count) ∧ Below w.heap.size w w') := by
  obtain ⟨F, G, hc, h0, hs, h4, hle⟩ : ∃ F G : Nat → Nat, (∀ k W, Calls Try.prog 72 #[.int .u64 (s.word k).toNat] W (fun r w' => r = .returned (.int .i64 (F k)) ∧ w' = W)) ∧
      0 = G 0 ∧ (∀ k, G k + F k = G (k + 1)) ∧ G 4 = s.count ∧ (∀ k, F k ≤ 64 ∧ G k ≤ 64 * k) :=
    ⟨fun k => popc (s.word k), cnt s, fun k W => ones_ok _ W, rfl, fun _ => rfl, cnt_all s, fun k => ⟨popc_le _, cnt_le s k⟩⟩
  rw [← h4]
  clear h4
  have HS := Lib.hid hs
  have H0 := Lib.hid h0
  clear hs h0
  unfold vS
  go_enter Try.func26, Try.ntmps26
  go_wp2
  go_loop [3, 7] (fun n i => ∃ k : Nat, k ≤ 4 ∧ i = .int .i64 k ∧ n = .int .i64 (G k)) (fun _ i => 4 - (intOf i).toNat)
  case atStart => exact ⟨0, by omega, rfl, by rw [← H0.out]; rfl⟩
  case round =>
    obtain ⟨k, hk, rfl, rfl⟩ := hrel
    by_cases hlt : k < 4
    · have hi := index_word s k hlt
      have h1 := hle k
      have hc := hc k
      clear hle
      go_wp2_with (go_at_call 72; refine (hc _).mono ?_; rintro e w1 ⟨rfl, rfl⟩)
      go_round
      case rel => exact ⟨k + 1, by omega, by go_num, by rw [← HS.out k]; go_num⟩
      case measure => simp [intOf]; omega
    · have : k = 4 := by omega
      subst this
      clear hle hc
      go_wp2
      go_ret
      exact ⟨rfl, (Below.refl _ _).alloc (Nat.le_refl _) _⟩
end Go.Proofs.Ytakldmbbmefnbaa
