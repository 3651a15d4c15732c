/- More of bits. -/
import Derived.Test.YtccofnngpijihaaGreatVc10
set_option linter.all false
namespace Go.Sv

theorem bits_nn {k : IntKind} {a b : Nat} (ha : a < 2 ^ (k.bits - 1)) (hb : b < 2 ^ (k.bits - 1)) :
    bitsI .and k a b = ((a &&& b : Nat) : Int) ∧ bitsI .or k a b = ((a ||| b : Nat) : Int) ∧ bitsI .andNot k a b = ((a &&& (a ^^^ (a &&& b)) : Nat) : Int) := by
  have hk : 0 < k.bits := by cases k <;> decide
  have hlt : 2 ^ (k.bits - 1) ≤ 2 ^ k.bits := Nat.pow_le_pow_right (by decide) (by omega)
  have ea : BitVec.ofInt k.bits (a : Int) = BitVec.ofNat k.bits a := by simp
  have eb : BitVec.ofInt k.bits (b : Int) = BitVec.ofNat k.bits b := by simp
  have ha' : a % 2 ^ k.bits = a := Nat.mod_eq_of_lt (by omega)
  have hb' : b % 2 ^ k.bits = b := Nat.mod_eq_of_lt (by omega)
  have wrap : ∀ x : Nat, x < 2 ^ (k.bits - 1) → k.wrap (x : Int) = x := by
    intro x hx
    have h1 : ((x : Int)) % 2 ^ k.bits = x := by
      have : ((2 : Int) ^ k.bits) = ((2 ^ k.bits : Nat) : Int) := by simp
      rw [this, ← Int.natCast_emod, Nat.mod_eq_of_lt (by omega)]
    unfold IntKind.wrap
    simp only [h1]
    rw [if_neg]
    simp only [Bool.and_eq_true, decide_eq_true_eq, not_and]
    intro _
    have : ((2 : Int) ^ (k.bits - 1)) = ((2 ^ (k.bits - 1) : Nat) : Int) := by simp
    rw [this]; omega
  refine ⟨?_, ?_, ?_⟩
  · simp only [bitsI, ea, eb, BitVec.toNat_and, BitVec.toNat_ofNat, ha', hb']
    exact wrap _ (Nat.lt_of_le_of_lt Nat.and_le_left ha)
  · simp only [bitsI, ea, eb, BitVec.toNat_or, BitVec.toNat_ofNat, ha', hb']
    exact wrap _ (Nat.or_lt_two_pow ha hb)
  · have h : (BitVec.ofNat k.bits a &&& ~~~ BitVec.ofNat k.bits b).toNat = a &&& (a ^^^ (a &&& b)) := by
      apply Nat.eq_of_testBit_eq
      intro i
      rw [BitVec.testBit_toNat]
      by_cases hi : i < k.bits
      · simp only [BitVec.getLsbD_and, BitVec.getLsbD_not, BitVec.getLsbD_ofNat, hi, decide_true, Bool.true_and, Nat.testBit_and, Nat.testBit_xor]
        cases a.testBit i <;> cases b.testBit i <;> rfl
      · have : a.testBit i = false := Nat.testBit_lt_two_pow (Nat.lt_of_lt_of_le (by omega : a < 2 ^ k.bits) (Nat.pow_le_pow_right (by decide) (by omega)))
        simp [hi, this]
    simp only [bitsI, ea, eb, h]
    exact wrap _ (Nat.lt_of_le_of_lt Nat.and_le_left ha)

theorem add_or : ∀ (n a b : Nat), a < n → a &&& b = 0 → a + b = a ||| b := by
  intro n
  induction n with
  | zero => intro a b h; omega
  | succ n ih =>
    intro a b ha h
    rcases Nat.eq_zero_or_pos a with rfl | hp
    · simp
    have h2 : a / 2 &&& b / 2 = 0 := by rw [← Nat.and_div_two, h]
    have h3 := ih (a / 2) (b / 2) (by omega) h2
    have h4 : (a ||| b) / 2 = a / 2 ||| b / 2 := Nat.or_div_two
    have h5 : (a ||| b) % 2 = 1 ↔ a % 2 = 1 ∨ b % 2 = 1 := Nat.or_mod_two_eq_one
    have h6 : (a &&& b) % 2 = 1 ↔ a % 2 = 1 ∧ b % 2 = 1 := Nat.and_mod_two_eq_one
    rw [h] at h6
    omega

/-- Bits above, bits below. -/
theorem BitsVC.or_add {k : IntKind} {a b q : Int} {K : Value → Prop} (n : Nat) (ha0 : 0 ≤ a) (ha : a < 2 ^ (k.bits - 1)) (hb0 : 0 ≤ b) (hb : b < 2 ^ n) (hn : n ≤ k.bits - 1) (hq : a = q * 2 ^ n) (h : K (.int k (a + b))) : BitsVC .or k a b K := by
  refine ⟨?_⟩
  obtain ⟨x, rfl⟩ := Int.eq_ofNat_of_zero_le ha0
  obtain ⟨y, rfl⟩ := Int.eq_ofNat_of_zero_le hb0
  have hy : y < 2 ^ n := by exact_mod_cast hb
  have hx : x < 2 ^ (k.bits - 1) := by exact_mod_cast ha
  have hp : (0 : Int) < 2 ^ n := Int.pow_pos (by decide)
  have hqn : 0 ≤ q := by
    rcases Int.lt_or_le q 0 with h1 | h1
    · have := Int.mul_neg_of_neg_of_pos h1 hp; omega
    · exact h1
  obtain ⟨z, rfl⟩ := Int.eq_ofNat_of_zero_le hqn
  have hz : x = 2 ^ n * z := by
    have : (x : Int) = ((z * 2 ^ n : Nat) : Int) := by rw [hq]; simp
    have := Int.ofNat.inj this
    rw [this, Nat.mul_comm]
  rw [(bits_nn hx (Nat.lt_of_lt_of_le hy (Nat.pow_le_pow_right (by decide) hn))).2.1]
  subst hz
  rw [← Nat.two_pow_add_eq_or_of_lt hy]
  simpa using h

theorem and_pow : ∀ (n a : Nat), a &&& 2 ^ n = a / 2 ^ n % 2 * 2 ^ n := by
  intro n
  induction n with
  | zero => intro a; simp [Nat.and_one_is_mod]
  | succ n ih =>
    intro a
    have h1 : (a &&& 2 ^ (n + 1)) / 2 = a / 2 &&& 2 ^ (n + 1) / 2 := Nat.and_div_two
    have h2 : 2 ^ (n + 1) / 2 = 2 ^ n := by rw [Nat.pow_succ]; omega
    have h3 : (a &&& 2 ^ (n + 1)) % 2 = 1 ↔ a % 2 = 1 ∧ 2 ^ (n + 1) % 2 = 1 := Nat.and_mod_two_eq_one
    have h4 : 2 ^ (n + 1) % 2 = 0 := by rw [Nat.pow_succ]; omega
    rw [h2, ih (a / 2), Nat.div_div_eq_div_mul, ← Nat.pow_succ'] at h1
    have h5 : a / 2 ^ (n + 1) % 2 * 2 ^ (n + 1) = 2 * (a / 2 ^ (n + 1) % 2 * 2 ^ n) := by
      rw [Nat.pow_succ 2 n, Nat.mul_comm (2 ^ n) 2, Nat.mul_left_comm]
    rw [h5]
    have h6 : a / 2 ^ n.succ % 2 * 2 ^ n = a / 2 ^ (n + 1) % 2 * 2 ^ n := rfl
    omega

/-- One bit. -/
theorem BitsVC.bit {k : IntKind} {a b : Int} {K : Value → Prop} (n : Nat) (ha0 : 0 ≤ a) (ha : a < 2 ^ (k.bits - 1)) (hn : n < k.bits - 1) (hb : b = 2 ^ n) (h : K (.int k (a / b % 2 * b))) : BitsVC .and k a b K := by
  refine ⟨?_⟩
  obtain ⟨x, rfl⟩ := Int.eq_ofNat_of_zero_le ha0
  have hx : x < 2 ^ (k.bits - 1) := by exact_mod_cast ha
  have hb' : b = ((2 ^ n : Nat) : Int) := by rw [hb]; simp
  subst hb'
  rw [(bits_nn hx (Nat.pow_lt_pow_right (by decide) hn)).1, and_pow]
  simpa using h

/-- All but one bit. -/
theorem BitsVC.unbit {k : IntKind} {a b : Int} {K : Value → Prop} (n : Nat) (ha0 : 0 ≤ a) (ha : a < 2 ^ (k.bits - 1)) (hn : n < k.bits - 1) (hb : b = 2 ^ n) (h : K (.int k (a - a / b % 2 * b))) : BitsVC .andNot k a b K := by
  refine ⟨?_⟩
  obtain ⟨x, rfl⟩ := Int.eq_ofNat_of_zero_le ha0
  have hx : x < 2 ^ (k.bits - 1) := by exact_mod_cast ha
  have hb' : b = ((2 ^ n : Nat) : Int) := by rw [hb]; simp
  subst hb'
  rw [(bits_nn hx (Nat.pow_lt_pow_right (by decide) hn)).2.2, and_pow]
  have hle : x / 2 ^ n % 2 * 2 ^ n ≤ x := by
    have h1 : x / 2 ^ n % 2 ≤ x / 2 ^ n := Nat.mod_le _ _
    exact Nat.le_trans (Nat.mul_le_mul_right _ h1) (Nat.div_mul_le_self x (2 ^ n))
  have key : x &&& (x ^^^ (x / 2 ^ n % 2 * 2 ^ n)) = x - x / 2 ^ n % 2 * 2 ^ n := by
    have e : x / 2 ^ n % 2 * 2 ^ n = x &&& 2 ^ n := (and_pow n x).symm
    have h1 : (x &&& (x ^^^ (x &&& 2 ^ n))) + (x &&& 2 ^ n) = x := by
      have hd : (x &&& (x ^^^ (x &&& 2 ^ n))) &&& (x &&& 2 ^ n) = 0 := by
        apply Nat.eq_of_testBit_eq
        intro i
        simp
        cases x.testBit i <;> simp
      have ho : (x &&& (x ^^^ (x &&& 2 ^ n))) ||| (x &&& 2 ^ n) = x := by
        apply Nat.eq_of_testBit_eq
        intro i
        simp
        cases x.testBit i <;> simp
      rw [add_or _ _ _ (Nat.lt_succ_self _) hd, ho]
    rw [e]; omega
  rw [key]
  have : ((x - x / 2 ^ n % 2 * 2 ^ n : Nat) : Int) = (x : Int) - (x : Int) / ((2 ^ n : Nat) : Int) % 2 * ((2 ^ n : Nat) : Int) := by
    rw [Int.ofNat_sub hle]; simp
  rw [this]; exact h

/-- One bit more. -/
theorem BitsVC.setbit {k : IntKind} {a b : Int} {K : Value → Prop} (n : Nat) (ha0 : 0 ≤ a) (ha : a < 2 ^ (k.bits - 1)) (hn : n < k.bits - 1) (hb : b = 2 ^ n) (hz : a / b % 2 = 0) (h : K (.int k (a + b))) : BitsVC .or k a b K := by
  refine ⟨?_⟩
  obtain ⟨x, rfl⟩ := Int.eq_ofNat_of_zero_le ha0
  have hx : x < 2 ^ (k.bits - 1) := by exact_mod_cast ha
  have hb' : b = ((2 ^ n : Nat) : Int) := by rw [hb]; simp
  subst hb'
  have hz' : x / 2 ^ n % 2 = 0 := by exact_mod_cast hz
  rw [(bits_nn hx (Nat.pow_lt_pow_right (by decide) hn)).2.1]
  rw [← add_or _ _ _ (Nat.lt_succ_self _) (by rw [and_pow, hz']; simp)]
  simpa using h
end Go.Sv
