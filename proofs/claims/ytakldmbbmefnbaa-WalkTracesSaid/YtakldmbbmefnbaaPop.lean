/- How many bits a word has: the plain law of math/bits.OnesCount64. -/
import Derived.Test.YtakldmbbmefnbaaData
namespace Go.Proofs.Ytakldmbbmefnbaa

/-- The sum of the lowest k digits to the base b. -/
def dsum (b : Nat) : Nat → Nat → Nat
  | 0, _ => 0
  | k + 1, x => x % b + dsum b k (x / b)

/-- How many of the lowest 64 bits are set. -/
def popc (x : BitVec 64) : Nat := dsum 2 64 x.toNat

def BSet.count (s : BSet) : Nat := popc s.w0 + popc s.w1 + popc s.w2 + popc s.w3

theorem dsum_zero (b : Nat) : ∀ k, dsum b k 0 = 0
  | 0 => rfl
  | k + 1 => by simp [dsum, dsum_zero b k]

theorem dsum_eq_zero {b : Nat} (hb : 0 < b) : ∀ k x, x < b ^ k → dsum b k x = 0 → x = 0
  | 0, x, h, _ => by simp at h; exact h
  | k + 1, x, h, h0 => by
    simp only [dsum] at h0
    have h1 : x / b < b ^ k := by rw [Nat.div_lt_iff_lt_mul hb]; rw [Nat.pow_succ] at h; exact h
    have h2 := dsum_eq_zero hb k (x / b) h1 (by omega)
    have h3 : x % b = 0 := by omega
    have := Nat.div_add_mod x b
    rw [h2, h3] at this
    simpa using this.symm

theorem popc_zero (x : BitVec 64) : popc x = 0 ↔ x = 0#64 := by
  constructor
  · intro h
    have := dsum_eq_zero (by decide) 64 x.toNat x.isLt h
    exact BitVec.eq_of_toNat_eq (by simpa using this)
  · rintro rfl
    exact dsum_zero 2 64

theorem count_zero (s : BSet) : s.count = 0 ↔ s = ⟨0#64, 0#64, 0#64, 0#64⟩ := by
  unfold BSet.count
  obtain ⟨a, b, c, d⟩ := s
  simp only [BSet.mk.injEq]
  rw [← popc_zero a, ← popc_zero b, ← popc_zero c, ← popc_zero d]
  omega

theorem dsum_le {b : Nat} (hb : 0 < b) : ∀ k x, dsum b k x ≤ k * (b - 1)
  | 0, _ => by simp [dsum]
  | k + 1, x => by
    have := dsum_le hb k (x / b)
    have h2 := Nat.mod_lt x hb
    simp only [dsum, Nat.succ_mul]
    omega

theorem popc_le (x : BitVec 64) : popc x ≤ 64 := by have := dsum_le (b := 2) (by decide) 64 x.toNat; simpa [popc] using this

/-- The mask of k fields of n bits, each with its lowest s bits set. -/
def mask (n s : Nat) : Nat → Nat
  | 0 => 0
  | k + 1 => mask n s k * 2 ^ n + (2 ^ s - 1)

theorem land_fields (n q r m t : Nat) (hr : r < 2 ^ n) (ht : t < 2 ^ n) : (q * 2 ^ n + r) &&& (m * 2 ^ n + t) = (q &&& m) * 2 ^ n + (r &&& t) := by
  have hrt : r &&& t < 2 ^ n := Nat.lt_of_le_of_lt Nat.and_le_left hr
  apply Nat.eq_of_testBit_eq
  intro i
  rw [Nat.mul_comm q, Nat.mul_comm m, Nat.mul_comm (q &&& m)]
  rw [Nat.testBit_and, Nat.testBit_two_pow_mul_add q hr, Nat.testBit_two_pow_mul_add m ht, Nat.testBit_two_pow_mul_add (q &&& m) hrt]
  split <;> simp [Nat.testBit_and]

/-- One step: the two halves of each field, added. -/
def fold2 (s k x : Nat) : Nat := (x / 2 ^ s &&& mask (2 * s) s k) + (x &&& mask (2 * s) s k)

theorem pow_two_mul (s : Nat) : 2 ^ (2 * s) = 2 ^ s * 2 ^ s := by rw [Nat.two_mul, Nat.pow_add]

theorem fold2_succ (s k x : Nat) (hs : 0 < s) : fold2 s (k + 1) x = fold2 s k (x / 2 ^ (2 * s)) * 2 ^ (2 * s) + (x % 2 ^ (2 * s) / 2 ^ s + x % 2 ^ s) := by
  have hp : 0 < 2 ^ s := Nat.two_pow_pos s
  have hB : 2 ^ (2 * s) = 2 ^ s * 2 ^ s := pow_two_mul s
  have hle : 2 ^ s ≤ 2 ^ (2 * s) := Nat.pow_le_pow_right (by decide) (by omega)
  have ht : 2 ^ s - 1 < 2 ^ (2 * s) := by omega
  have h1 : x / 2 ^ s = x / 2 ^ s / 2 ^ (2 * s) * 2 ^ (2 * s) + x / 2 ^ s % 2 ^ (2 * s) := by rw [Nat.mul_comm]; exact (Nat.div_add_mod _ _).symm
  have h2 : x = x / 2 ^ (2 * s) * 2 ^ (2 * s) + x % 2 ^ (2 * s) := by rw [Nat.mul_comm]; exact (Nat.div_add_mod _ _).symm
  have e1 : x / 2 ^ s / 2 ^ (2 * s) = x / 2 ^ (2 * s) / 2 ^ s := by rw [Nat.div_div_eq_div_mul, Nat.div_div_eq_div_mul, Nat.mul_comm]
  have a1 : x / 2 ^ s &&& mask (2 * s) s (k + 1) = (x / 2 ^ (2 * s) / 2 ^ s &&& mask (2 * s) s k) * 2 ^ (2 * s) + x % 2 ^ (2 * s) / 2 ^ s := by
    rw [← e1]
    conv => lhs; rw [h1]
    simp only [mask]
    rw [land_fields _ _ _ _ _ (Nat.mod_lt _ (Nat.two_pow_pos _)) ht, Nat.and_two_pow_sub_one_eq_mod]
    congr 1
    rw [hB, Nat.mod_mul_left_mod, Nat.mod_mul_right_div_self]
  have a2 : x &&& mask (2 * s) s (k + 1) = (x / 2 ^ (2 * s) &&& mask (2 * s) s k) * 2 ^ (2 * s) + x % 2 ^ s := by
    conv => lhs; rw [h2]
    simp only [mask]
    rw [land_fields _ _ _ _ _ (Nat.mod_lt _ (Nat.two_pow_pos _)) ht, Nat.and_two_pow_sub_one_eq_mod]
    congr 1
    rw [hB, Nat.mod_mul_left_mod]
  unfold fold2
  rw [a1, a2, Nat.add_mul]
  omega

theorem dsum_fold2 (s : Nat) (hs : 0 < s) : ∀ k x, dsum (2 ^ (2 * s)) k (fold2 s k x) = dsum (2 ^ s) (2 * k) x
  | 0, x => rfl
  | k + 1, x => by
    have hB : 2 ^ (2 * s) = 2 ^ s * 2 ^ s := pow_two_mul s
    have hp : 2 ≤ 2 ^ s := by
      calc 2 = 2 ^ 1 := rfl
        _ ≤ 2 ^ s := Nat.pow_le_pow_right (by decide) hs
    have hq : x % 2 ^ (2 * s) / 2 ^ s < 2 ^ s := by
      rw [Nat.div_lt_iff_lt_mul (by omega), ← hB]; exact Nat.mod_lt _ (Nat.two_pow_pos _)
    have hr : x % 2 ^ s < 2 ^ s := Nat.mod_lt _ (by omega)
    have hsum : x % 2 ^ (2 * s) / 2 ^ s + x % 2 ^ s < 2 ^ (2 * s) := by
      have h2 : 2 * 2 ^ s ≤ 2 ^ (2 * s) := by rw [hB]; exact Nat.mul_le_mul_right _ hp
      omega
    rw [fold2_succ s k x hs]
    show _ = dsum (2 ^ s) (2 * k + 2) x
    simp only [dsum]
    rw [Nat.mul_comm (fold2 _ _ _), Nat.mul_add_mod, Nat.mod_eq_of_lt hsum, Nat.mul_add_div (Nat.two_pow_pos _), Nat.div_eq_of_lt hsum, Nat.add_zero, dsum_fold2 s hs k, hB, Nat.mod_mul_right_div_self, Nat.div_div_eq_div_mul]
    omega

/-- Each of the lowest k digits to the base b is at most m. -/
def dmax (b m : Nat) : Nat → Nat → Prop
  | 0, _ => True
  | k + 1, x => x % b ≤ m ∧ dmax b m k (x / b)

theorem dmax_any {b : Nat} (hb : 0 < b) : ∀ k x, dmax b (b - 1) k x
  | 0, _ => trivial
  | k + 1, x => ⟨by have := Nat.mod_lt x hb; omega, dmax_any hb k _⟩

theorem dmax_fold2 (s m : Nat) (hs : 0 < s) (hm : 2 * m < 2 ^ (2 * s)) : ∀ k x, dmax (2 ^ s) m (2 * k) x → dmax (2 ^ (2 * s)) (2 * m) k (fold2 s k x)
  | 0, _, _ => trivial
  | k + 1, x, h => by
    have h' : dmax (2 ^ s) m (2 * k + 2) x := h
    obtain ⟨h1, h2, h3⟩ := h'
    have hB : 2 ^ (2 * s) = 2 ^ s * 2 ^ s := pow_two_mul s
    have e : x % 2 ^ (2 * s) / 2 ^ s = x / 2 ^ s % 2 ^ s := by rw [hB, Nat.mod_mul_right_div_self]
    have hsum : x % 2 ^ (2 * s) / 2 ^ s + x % 2 ^ s < 2 ^ (2 * s) := by rw [e]; omega
    rw [fold2_succ s k x hs]
    refine ⟨?_, ?_⟩
    · rw [Nat.mul_comm (fold2 _ _ _), Nat.mul_add_mod, Nat.mod_eq_of_lt hsum, e]; omega
    · rw [Nat.mul_comm (fold2 _ _ _), Nat.mul_add_div (Nat.two_pow_pos _), Nat.div_eq_of_lt hsum, Nat.add_zero]
      refine dmax_fold2 s m hs hm k _ ?_
      rw [hB, ← Nat.div_div_eq_div_mul]
      exact h3

theorem fold2_lt (s k x : Nat) : fold2 s k x ≤ 2 * mask (2 * s) s k := by
  have h1 : x / 2 ^ s &&& mask (2 * s) s k ≤ mask (2 * s) s k := Nat.and_le_right
  have h2 : x &&& mask (2 * s) s k ≤ mask (2 * s) s k := Nat.and_le_right
  unfold fold2; omega

/-- The third step adds ahead of the mask. -/
theorem fold_last : ∀ k x, dmax 16 4 (2 * k + 1) x → (x / 16 + x) &&& mask 8 4 k = fold2 4 k x
  | 0, x, _ => by simp [fold2, mask]
  | k + 1, x, h => by
    have h' : dmax 16 4 (2 * k + 3) x := h
    obtain ⟨h1, h2, h3, h4⟩ := h'
    have e3 : x / 16 / 16 = x / 256 := by rw [Nat.div_div_eq_div_mul]
    rw [e3] at h3
    have ih := fold_last k (x / 256) ⟨h3, by rw [e3] at h4; exact h4⟩
    have key : x / 16 + x = (x / 256 / 16 + x / 256) * 2 ^ 8 + ((x / 256 % 16 + x / 16 % 16) * 16 + (x / 16 % 16 + x % 16)) := by
      have a1 := Nat.div_add_mod x 16
      have a2 := Nat.div_add_mod (x / 16) 16
      have a3 := Nat.div_add_mod (x / 256) 16
      rw [e3] at a2
      omega
    have hlt : (x / 256 % 16 + x / 16 % 16) * 16 + (x / 16 % 16 + x % 16) < 2 ^ 8 := by omega
    rw [key]
    simp only [mask]
    rw [land_fields _ _ _ _ _ hlt (by decide), ih, Nat.and_two_pow_sub_one_eq_mod, fold2_succ 4 k x (by decide)]
    have e : x % 2 ^ (2 * 4) / 2 ^ 4 = x / 16 % 16 := by show x % 256 / 16 = _; omega
    rw [e]
    show fold2 4 k (x / 256) * 2 ^ 8 + _ = fold2 4 k (x / 256) * 2 ^ 8 + _
    congr 1
    show _ % 16 = _ + x % 16
    omega

theorem mask1 : mask 2 1 32 = 6148914691236517205 := by decide
theorem mask2 : mask 4 2 16 = 3689348814741910323 := by decide
theorem mask4 : mask 8 4 8 = 1085102592571150095 := by decide

theorem bytes8 (c : Nat) (h : dmax 256 8 8 c) (hc : c < 18446744073709551616) :
    (c + c / 256 + (c + c / 256) / 65536 + (c + c / 256 + (c + c / 256) / 65536) / 4294967296) % 128 = dsum 256 8 c := by
  have cut : ∀ x, x % 256 ≤ 8 → ∃ b y, x = b + 256 * y ∧ b ≤ 8 ∧ x % 256 = b ∧ x / 256 = y := fun x hx => ⟨x % 256, x / 256, (Nat.mod_add_div x 256).symm, hx, rfl, rfl⟩
  obtain ⟨h0, h1, h2, h3, h4, h5, h6, h7, _⟩ := h
  simp only [dsum]
  obtain ⟨b0, c1, e0, l0, m0, d0⟩ := cut c h0
  rw [d0] at h1 h2 h3 h4 h5 h6 h7
  obtain ⟨b1, c2, e1, l1, m1, d1⟩ := cut c1 h1
  rw [d1] at h2 h3 h4 h5 h6 h7
  obtain ⟨b2, c3, e2, l2, m2, d2⟩ := cut c2 h2
  rw [d2] at h3 h4 h5 h6 h7
  obtain ⟨b3, c4, e3, l3, m3, d3⟩ := cut c3 h3
  rw [d3] at h4 h5 h6 h7
  obtain ⟨b4, c5, e4, l4, m4, d4⟩ := cut c4 h4
  rw [d4] at h5 h6 h7
  obtain ⟨b5, c6, e5, l5, m5, d5⟩ := cut c5 h5
  rw [d5] at h6 h7
  obtain ⟨b6, c7, e6, l6, m6, d6⟩ := cut c6 h6
  rw [d6] at h7
  obtain ⟨b7, c8, e7, l7, m7, d7⟩ := cut c7 h7
  simp only [d0, d1, d2, d3, d4, d5, d6, m0, m1, m2, m3, m4, m5, m6, m7]
  have h8 : c8 = 0 := by
    clear m0 m1 m2 m3 m4 m5 m6 m7 d0 d1 d2 d3 d4 d5 d6 d7 h0 h1 h2 h3 h4 h5 h6 h7 cut
    omega
  subst h8
  clear m0 m1 m2 m3 m4 m5 m6 m7 d0 d1 d2 d3 d4 d5 d6 d7 h0 h1 h2 h3 h4 h5 h6 h7 cut hc
  have s1 : (c + c1) / 65536 = c2 + c3 := by
    clear e3 e4 e5 e6 e7
    omega
  have s2 : (c + c1 + (c2 + c3)) / 4294967296 = c4 + c5 + (c6 + c7) := by
    have f3 : c2 = b2 + 256 * b3 + 65536 * c4 := by rw [e2, e3]; omega
    have f4 : c3 = b3 + 256 * b4 + 65536 * c5 := by rw [e3, e4]; omega
    have f5 : c4 = b4 + 256 * b5 + 65536 * c6 := by rw [e4, e5]; omega
    have g0 : c = b0 + 256 * b1 + 65536 * b2 + 16777216 * b3 + 4294967296 * c4 := by rw [e0, e1, f3]; omega
    have g1 : c1 = b1 + 256 * b2 + 65536 * b3 + 16777216 * b4 + 4294967296 * c5 := by rw [e1, e2, f4]; omega
    have g2 : c2 = b2 + 256 * b3 + 65536 * b4 + 16777216 * b5 + 4294967296 * c6 := by rw [f3, f5]; omega
    have g3 : c3 = b3 + 256 * b4 + 65536 * b5 + 16777216 * b6 + 4294967296 * c7 := by rw [f4, e5, e6]; omega
    clear f3 f4 f5 e0 e1 e2 e3 e4 e5 e6 e7 s1
    omega
  rw [s1, s2]
  clear s1 s2
  omega

/-- All of it: three folds, then the bytes. -/
theorem popc_eq (x : BitVec 64) : dsum 256 8 (fold2 4 8 (fold2 2 16 (fold2 1 32 x.toNat))) = popc x := by
  have a := dsum_fold2 1 (by decide) 32 x.toNat
  have b := dsum_fold2 2 (by decide) 16 (fold2 1 32 x.toNat)
  have c := dsum_fold2 4 (by decide) 8 (fold2 2 16 (fold2 1 32 x.toNat))
  exact c.trans (b.trans a)

theorem popc_max (x : BitVec 64) : dmax 16 4 17 (fold2 2 16 (fold2 1 32 x.toNat)) ∧ dmax 256 8 8 (fold2 4 8 (fold2 2 16 (fold2 1 32 x.toNat))) := by
  have a : dmax 4 2 32 (fold2 1 32 x.toNat) := dmax_fold2 1 1 (by decide) (by decide) 32 _ (dmax_any (by decide) 64 _)
  have b : dmax 16 4 16 (fold2 2 16 (fold2 1 32 x.toNat)) := dmax_fold2 2 2 (by decide) (by decide) 16 _ a
  have hb := fold2_lt 2 16 (fold2 1 32 x.toNat)
  rw [show mask (2 * 2) 2 16 = 3689348814741910323 from mask2] at hb
  refine ⟨?_, dmax_fold2 4 4 (by decide) (by decide) 8 _ b⟩
  have more : ∀ k y, dmax 16 4 k y → y < 16 ^ k → dmax 16 4 (k + 1) y := by
    intro k
    induction k with
    | zero => intro y _ h; simp at h; subst h; exact ⟨by decide, trivial⟩
    | succ k ih =>
      intro y h hy
      exact ⟨h.1, ih _ h.2 (by rw [Nat.div_lt_iff_lt_mul (by decide)]; rw [Nat.pow_succ] at hy; exact hy)⟩
  exact more 16 _ b (by omega)

theorem ones_parts (x : BitVec 64) : ∃ a b c d f g : Nat, (x.toNat / 2 &&& 6148914691236517205) + (x.toNat &&& 6148914691236517205) = a ∧ (a / 4 &&& 3689348814741910323) + (a &&& 3689348814741910323) = b ∧ (b / 16 + b) &&& 1085102592571150095 = c ∧
    c + c / 256 = d ∧ d + d / 65536 = f ∧ f + f / 4294967296 = g ∧ g % 128 = popc x ∧ a ≤ 2 * 6148914691236517205 ∧ b ≤ 2 * 3689348814741910323 ∧ c ≤ 2 * 1085102592571150095 := by
  have ha := fold2_lt 1 32 x.toNat
  have hb := fold2_lt 2 16 (fold2 1 32 x.toNat)
  have hc := fold2_lt 4 8 (fold2 2 16 (fold2 1 32 x.toNat))
  rw [show mask (2 * 1) 1 32 = 6148914691236517205 from mask1] at ha
  rw [show mask (2 * 2) 2 16 = 3689348814741910323 from mask2] at hb
  rw [show mask (2 * 4) 4 8 = 1085102592571150095 from mask4] at hc
  obtain ⟨hm1, hm2⟩ := popc_max x
  have hpc := popc_eq x
  have e3 := fold_last 8 _ hm1
  rw [mask4] at e3
  have hq := bytes8 _ hm2 (by omega)
  rw [hpc] at hq
  exact ⟨fold2 1 32 x.toNat, fold2 2 16 (fold2 1 32 x.toNat), fold2 4 8 (fold2 2 16 (fold2 1 32 x.toNat)), _, _, _,
    by unfold fold2; rw [show mask (2 * 1) 1 32 = 6148914691236517205 from mask1], by rw [show fold2 2 16 (fold2 1 32 x.toNat) = (fold2 1 32 x.toNat / 2 ^ 2 &&& mask (2 * 2) 2 16) + (fold2 1 32 x.toNat &&& mask (2 * 2) 2 16) from rfl, show mask (2 * 2) 2 16 = 3689348814741910323 from mask2],
    e3, rfl, rfl, rfl, hq, ha, hb, hc⟩
end Go.Proofs.Ytakldmbbmefnbaa
