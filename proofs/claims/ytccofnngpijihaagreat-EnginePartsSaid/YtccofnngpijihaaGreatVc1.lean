/- Operations that only compute: what they need, what they give; sound over the model's own. -/
import Derived.Test.YtccofnngpijihaaGreatVc0
set_option linter.all false
namespace Go.Sv

def nth {α : Type} : List α → Nat → Option α
  | [], _ => none
  | x :: xs, n => match n with
    | 0 => some x
    | n + 1 => nth xs n

theorem nth_eq {α : Type} (l : List α) : ∀ n, nth l n = l[n]? := by
  induction l with
  | nil => intro n; simp [nth]
  | cons x xs ih => intro n; cases n <;> simp [nth, ih]

def takeL {α : Type} : Nat → List α → Option (List α)
  | 0, _ => some []
  | n + 1, x :: xs => match takeL n xs with
    | some ys => some (x :: ys)
    | none => none
  | _ + 1, [] => none

def cutL {α : Type} : Nat → Nat → List α → Option (List α)
  | 0, n, l => takeL n l
  | k + 1, n, _ :: l => cutL k n l
  | _ + 1, _, [] => none

theorem takeL_eq {α : Type} : ∀ (n : Nat) (l r : List α), takeL n l = some r → r = l.take n ∧ r.length = n := by
  intro n
  induction n with
  | zero => intro l r h; simp [takeL] at h; subst h; simp
  | succ n ih =>
    intro l r h
    cases l with
    | nil => simp [takeL] at h
    | cons x xs =>
      simp only [takeL] at h
      split at h
      · rename_i ys hys; simp at h; subst h; obtain ⟨h1, h2⟩ := ih xs ys hys; subst h1; simpa using h2
      · simp at h

theorem cutL_eq {α : Type} : ∀ (k n : Nat) (l r : List α), cutL k n l = some r → r = (l.drop k).take n ∧ r.length = n := by
  intro k
  induction k with
  | zero => intro n l r h; simpa using takeL_eq n l r h
  | succ k ih =>
    intro n l r h
    cases l with
    | nil => simp [cutL] at h
    | cons x xs => simpa using ih n xs r h

/-- The list's spine, laid open. -/
def frc {α : Type} : List α → (List α → Prop) → Prop
  | [], K => K []
  | x :: xs, K => frc xs fun ys => K (x :: ys)

theorem frc_eq {α : Type} (l : List α) : ∀ K : List α → Prop, frc l K = K l := by
  induction l with
  | nil => intro K; rfl
  | cons x xs ih => intro K; simp [frc, ih]

/-- Writing some cells, from a place on. -/
def setL : List Value → Nat → List Value → Option (List Value)
  | l, 0, [] => some l
  | _ :: l, 0, v :: vs => match setL l 0 vs with
    | some r => some (v :: r)
    | none => none
  | [], 0, _ :: _ => none
  | x :: l, k + 1, vs => match setL l k vs with
    | some r => some (x :: r)
    | none => none
  | [], _ + 1, _ => none

def sameK : IntKind → IntKind → Bool
  | .i8, .i8 | .i16, .i16 | .i32, .i32 | .i64, .i64 | .u8, .u8 | .u16, .u16 | .u32, .u32 | .u64, .u64 => true
  | _, _ => false

theorem sameK_eq {k k' : IntKind} (h : sameK k k' = true) : k = k' := by cases k <;> cases k' <;> first | rfl | cases h

/-! Values by their make. -/
def onInt (v : Value) (f : IntKind → Int → Prop) : Prop := match v with | .int k n => f k n | _ => False
def onBool (v : Value) (f : Bool → Prop) : Prop := match v with | .bool b => f b | _ => False
def onStr (v : Value) (f : ByteArray → Prop) : Prop := match v with | .string s => f s | _ => False
def onPtr (v : Value) (f : Nat → Nat → Prop) : Prop := match v with | .pointer (some ⟨b, o, none⟩) => f b o | _ => False
def onAgg (v : Value) (f : List Value → Prop) : Prop := match v with | .agg cs => f cs.toList | _ => False
def onTup (v : Value) (f : List Value → Prop) : Prop := match v with | .tuple cs => f cs.toList | _ => False
def onSl (v : Value) (f : Nat → Nat → Nat → Nat → Prop) : Prop := match v with | .slice (some ⟨b, o, none⟩) n c => f b o n c | _ => False
def onSlice (v : Value) (f : Nat → Nat → Nat → Nat → Prop) (g : Nat → Nat → Prop) : Prop := match v with
  | .slice (some ⟨b, o, none⟩) n c => f b o n c
  | .slice none n c => g n c
  | _ => False
theorem onInt.out {v : Value} {f : IntKind → Int → Prop} (h : onInt v f) : ∃ k n, v = .int k n ∧ f k n := by
  unfold onInt at h; split at h
  · exact ⟨_, _, rfl, h⟩
  · exact h.elim
theorem onBool.out {v : Value} {f : Bool → Prop} (h : onBool v f) : ∃ b, v = .bool b ∧ f b := by
  unfold onBool at h; split at h
  · exact ⟨_, rfl, h⟩
  · exact h.elim
theorem onStr.out {v : Value} {f : ByteArray → Prop} (h : onStr v f) : ∃ s, v = .string s ∧ f s := by
  unfold onStr at h; split at h
  · exact ⟨_, rfl, h⟩
  · exact h.elim
theorem onPtr.out {v : Value} {f : Nat → Nat → Prop} (h : onPtr v f) : ∃ b o, v = .pointer (some ⟨b, o, none⟩) ∧ f b o := by
  unfold onPtr at h; split at h
  · exact ⟨_, _, rfl, h⟩
  · exact h.elim
theorem onAgg.out {v : Value} {f : List Value → Prop} (h : onAgg v f) : ∃ cs, v = .agg cs ∧ f cs.toList := by
  unfold onAgg at h; split at h
  · exact ⟨_, rfl, h⟩
  · exact h.elim
theorem onTup.out {v : Value} {f : List Value → Prop} (h : onTup v f) : ∃ cs, v = .tuple cs ∧ f cs.toList := by
  unfold onTup at h; split at h
  · exact ⟨_, rfl, h⟩
  · exact h.elim
theorem onSl.out {v : Value} {f : Nat → Nat → Nat → Nat → Prop} (h : onSl v f) : ∃ b o n c, v = .slice (some ⟨b, o, none⟩) n c ∧ f b o n c := by
  unfold onSl at h; split at h
  · exact ⟨_, _, _, _, rfl, h⟩
  · exact h.elim
theorem onSlice.out {v : Value} {f : Nat → Nat → Nat → Nat → Prop} {g : Nat → Nat → Prop} (h : onSlice v f g) :
    (∃ b o n c, v = .slice (some ⟨b, o, none⟩) n c ∧ f b o n c) ∨ (∃ n c, v = .slice none n c ∧ g n c) := by
  unfold onSlice at h; split at h
  · exact .inl ⟨_, _, _, _, rfl, h⟩
  · exact .inr ⟨_, _, rfl, h⟩
  · exact h.elim

/-- A number that may wrap. -/
inductive Arith (k : IntKind) (e : Int) (K : Value → Prop) : Prop
  | wrap (h : K (.int k (k.wrap e)))

theorem Arith.out {k : IntKind} {e : Int} {K : Value → Prop} : Arith k e K → K (.int k (k.wrap e)) | ⟨h⟩ => h

section
variable {e : Int} {K : Value → Prop}
theorem Arith.i64 (h1 : -9223372036854775808 ≤ e) (h2 : e ≤ 9223372036854775807) (h : K (.int .i64 e)) : Arith .i64 e K :=
  ⟨by have : IntKind.i64.wrap e = e := by (simp [IntKind.wrap, IntKind.bits, IntKind.signed]; split <;> omega)
      rw [this]; exact h⟩
theorem Arith.i32 (h1 : -2147483648 ≤ e) (h2 : e ≤ 2147483647) (h : K (.int .i32 e)) : Arith .i32 e K :=
  ⟨by have : IntKind.i32.wrap e = e := by (simp [IntKind.wrap, IntKind.bits, IntKind.signed]; split <;> omega)
      rw [this]; exact h⟩
theorem Arith.u8 (h1 : 0 ≤ e) (h2 : e ≤ 255) (h : K (.int .u8 e)) : Arith .u8 e K :=
  ⟨by have : IntKind.u8.wrap e = e := by (simp only [IntKind.wrap, IntKind.bits, IntKind.signed, Bool.false_and, Bool.false_eq_true, if_false]; simp only [Int.reducePow]; omega)
      rw [this]; exact h⟩
theorem Arith.u16 (h1 : 0 ≤ e) (h2 : e ≤ 65535) (h : K (.int .u16 e)) : Arith .u16 e K :=
  ⟨by have : IntKind.u16.wrap e = e := by (simp only [IntKind.wrap, IntKind.bits, IntKind.signed, Bool.false_and, Bool.false_eq_true, if_false]; simp only [Int.reducePow]; omega)
      rw [this]; exact h⟩
theorem Arith.u32 (h1 : 0 ≤ e) (h2 : e ≤ 4294967295) (h : K (.int .u32 e)) : Arith .u32 e K :=
  ⟨by have : IntKind.u32.wrap e = e := by (simp only [IntKind.wrap, IntKind.bits, IntKind.signed, Bool.false_and, Bool.false_eq_true, if_false]; simp only [Int.reducePow]; omega)
      rw [this]; exact h⟩
theorem Arith.u64 (h1 : 0 ≤ e) (h2 : e ≤ 18446744073709551615) (h : K (.int .u64 e)) : Arith .u64 e K :=
  ⟨by have : IntKind.u64.wrap e = e := by (simp only [IntKind.wrap, IntKind.bits, IntKind.signed, Bool.false_and, Bool.false_eq_true, if_false]; simp only [Int.reducePow]; omega)
      rw [this]; exact h⟩
end

/-- A place of a list. -/
inductive NthVC (l : List Value) (n : Nat) (K : Value → Prop) : Prop
  | mk (v : Value) (hv : nth l n = some v) (k : K v)

inductive CutVC (l : List Value) (k n : Nat) (K : List Value → Prop) : Prop
  | mk (vs : List Value) (hv : cutL k n l = some vs) (k : frc vs K)

def bitsI (op : BinOp) (k : IntKind) (x y : Int) : Int :=
  match op with
  | .and => k.wrap (BitVec.ofInt k.bits x &&& BitVec.ofInt k.bits y).toNat
  | .or => k.wrap (BitVec.ofInt k.bits x ||| BitVec.ofInt k.bits y).toNat
  | .xor => k.wrap (BitVec.ofInt k.bits x ^^^ BitVec.ofInt k.bits y).toNat
  | .andNot => k.wrap (BitVec.ofInt k.bits x &&& ~~~ BitVec.ofInt k.bits y).toNat
  | _ => 0

/-- A byte of a string; a part of a string. -/
def bt (s : ByteArray) (i : Int) : Int := ((s.data.toList.getD i.toNat 0).toNat : Int)
def sb (s : ByteArray) (l h : Int) : ByteArray := s.extract l.toNat h.toNat

def shlI (k : IntKind) (a b : Int) : Int := a * 2 ^ min b.toNat k.bits
def shrI (k : IntKind) (a b : Int) : Int := a.fdiv (2 ^ min b.toNat k.bits)

/-- Operations on bits. -/
inductive BitsVC (op : BinOp) (k : IntKind) (a b : Int) (K : Value → Prop) : Prop
  | raw (h : K (.int k (bitsI op k a b)))

theorem BitsVC.out {op : BinOp} {k : IntKind} {a b : Int} {K : Value → Prop} : BitsVC op k a b K → K (.int k (bitsI op k a b)) | ⟨h⟩ => h

theorem and_mask {k : IntKind} {a : Int} (n : Nat) (hn : n < k.bits) (_h0 : -2 ^ (k.bits - 1) ≤ a) (_h1 : a < 2 ^ (k.bits - 1)) : bitsI .and k a (2 ^ n - 1) = a % 2 ^ n := by
  have hp : (0 : Int) < 2 ^ n := Int.pow_pos (by decide)
  have hc : ((2 : Int) ^ n - 1) = ((2 ^ n - 1 : Nat) : Int) := by
    have : 1 ≤ 2 ^ n := Nat.one_le_two_pow
    rw [Int.ofNat_sub this]; simp
  have hb : 0 < k.bits := by cases k <;> decide
  have hpow : 2 ^ k.bits = 2 * 2 ^ (k.bits - 1) := by
    conv => lhs; rw [show k.bits = (k.bits - 1) + 1 from by omega]
    rw [Nat.pow_succ]; omega
  have hn2 : 2 ^ n ≤ 2 ^ (k.bits - 1) := Nat.pow_le_pow_right (by decide) (by omega)
  have hpos : (0 : Int) < 2 ^ k.bits := Int.pow_pos (by decide)
  have hr0 : 0 ≤ a % 2 ^ k.bits := Int.emod_nonneg _ (by omega)
  obtain ⟨m, hm⟩ := Int.eq_ofNat_of_zero_le hr0
  have hlt : m < 2 ^ k.bits := by
    have := Int.emod_lt_of_pos a hpos
    rw [hm] at this
    exact_mod_cast this
  have hof : (BitVec.ofInt k.bits a).toNat = m := by
    rw [BitVec.toNat_ofInt]
    have : ((2 ^ k.bits : Nat) : Int) = 2 ^ k.bits := by simp
    rw [this, hm]; simp
  have hnat : (BitVec.ofInt k.bits a &&& BitVec.ofInt k.bits ((2 ^ n - 1 : Nat) : Int)).toNat = m % 2 ^ n := by
    simp only [BitVec.toNat_and, hof, BitVec.ofInt_natCast, BitVec.toNat_ofNat]
    rw [Nat.mod_eq_of_lt (show 2 ^ n - 1 < 2 ^ k.bits by omega), Nat.and_two_pow_sub_one_eq_mod]
  have hdvd : (2 : Int) ^ n ∣ 2 ^ k.bits := by
    refine ⟨2 ^ (k.bits - n), ?_⟩
    rw [← Int.pow_add]; congr 1; omega
  have hm2 : a % 2 ^ n = ((m % 2 ^ n : Nat) : Int) := by
    rw [← Int.emod_emod_of_dvd a hdvd, hm]; simp
  have hlt2 : m % 2 ^ n < 2 ^ n := Nat.mod_lt _ (Nat.two_pow_pos n)
  rw [hc, hm2]
  simp only [bitsI, hnat]
  have hz : (((m % 2 ^ n : Nat) : Int)) % 2 ^ k.bits = ((m % 2 ^ n : Nat) : Int) := by
    have : ((2 : Int) ^ k.bits) = ((2 ^ k.bits : Nat) : Int) := by simp
    rw [this, ← Int.natCast_emod, Nat.mod_eq_of_lt (by omega)]
  unfold IntKind.wrap
  simp only [hz]
  rw [if_neg]
  simp only [Bool.and_eq_true, decide_eq_true_eq, not_and]
  intro _
  have : ((2 : Int) ^ (k.bits - 1)) = ((2 ^ (k.bits - 1) : Nat) : Int) := by simp
  rw [this]
  omega

theorem BitsVC.mask {k : IntKind} {a b d : Int} {K : Value → Prop} (n : Nat) (hb : (2 : Int) ^ n = d ∧ b = d - 1) (hn : n < k.bits) (h0 : -2 ^ (k.bits - 1) ≤ a) (h1 : a < 2 ^ (k.bits - 1)) (h : K (.int k (a % d))) : BitsVC .and k a b K := by
  obtain ⟨rfl, rfl⟩ := hb
  exact ⟨by rw [and_mask n hn h0 h1]; exact h⟩

inductive CplVC (k : IntKind) (n : Int) (K : Value → Prop) : Prop
  | raw (h : K (.int k (bitsI .xor k (if k.signed then -1 else k.max) n)))
theorem CplVC.out {k : IntKind} {n : Int} {K : Value → Prop} : CplVC k n K → K (.int k (bitsI .xor k (if k.signed then -1 else k.max) n)) | ⟨h⟩ => h
theorem cpl_i64 {n : Int} (h0 : -9223372036854775808 ≤ n) (h1 : n ≤ 9223372036854775807) : bitsI .xor .i64 (-1) n = -n - 1 := by
  have e : (BitVec.ofInt 64 (-1) ^^^ BitVec.ofInt 64 n) = ~~~ BitVec.ofInt 64 n := by
    have : BitVec.ofInt 64 (-1) = BitVec.allOnes 64 := by decide
    rw [this, BitVec.allOnes_xor]
  have h2 : (BitVec.ofInt 64 (-1) ^^^ BitVec.ofInt 64 n).toNat = 18446744073709551616 - 1 - (n % 18446744073709551616).toNat := by
    rw [e, BitVec.toNat_not, BitVec.toNat_ofInt]; rfl
  show IntKind.i64.wrap ((BitVec.ofInt 64 (-1) ^^^ BitVec.ofInt 64 n).toNat : Int) = -n - 1
  rw [h2]
  simp [IntKind.wrap, IntKind.bits, IntKind.signed]
  split <;> omega
theorem CplVC.i64 {n : Int} {K : Value → Prop} (h0 : -9223372036854775808 ≤ n) (h1 : n ≤ 9223372036854775807) (h : K (.int .i64 (-n - 1))) : CplVC .i64 n K := by
  have := cpl_i64 h0 h1
  exact ⟨by rw [show IntKind.i64.signed = true from rfl, if_pos rfl, this]; exact h⟩

inductive ShrVC (k : IntKind) (a b : Int) (K : Value → Prop) : Prop
  | raw (h : K (.int k (shrI k a b)))
theorem ShrVC.out {k : IntKind} {a b : Int} {K : Value → Prop} : ShrVC k a b K → K (.int k (shrI k a b)) | ⟨h⟩ => h
theorem ShrVC.lit {k : IntKind} {a b d : Int} {K : Value → Prop} (n : Nat) (hn : n ≤ k.bits) (hb : b = n) (hd : (2 : Int) ^ n = d) (h : K (.int k (a / d))) : ShrVC k a b K := by
  subst hb; subst hd
  refine ⟨?_⟩
  have : min ((n : Int)).toNat k.bits = n := by simp; omega
  rw [shrI, this, Int.fdiv_eq_ediv_of_nonneg _ (Int.le_of_lt (Int.pow_pos (by decide)))]
  exact h

inductive ShlVC (k : IntKind) (a b : Int) (K : Value → Prop) : Prop
  | raw (h : Arith k (shlI k a b) K)
theorem ShlVC.out {k : IntKind} {a b : Int} {K : Value → Prop} : ShlVC k a b K → Arith k (shlI k a b) K | ⟨h⟩ => h
theorem ShlVC.lit {k : IntKind} {a b d : Int} {K : Value → Prop} (n : Nat) (hn : n ≤ k.bits) (hb : b = n) (hd : (2 : Int) ^ n = d) (h : Arith k (a * d) K) : ShlVC k a b K := by
  subst hb; subst hd
  refine ⟨?_⟩
  have : min ((n : Int)).toNat k.bits = n := by simp; omega
  rw [shlI, this]
  exact h

theorem ShrVC.s1 {k : IntKind} {a : Int} {K : Value → Prop} (hb : 1 ≤ k.bits) (h : K (.int k (a / 2))) : ShrVC k a 1 K := ShrVC.lit 1 hb rfl (by decide) h
theorem ShrVC.s3 {k : IntKind} {a : Int} {K : Value → Prop} (hb : 3 ≤ k.bits) (h : K (.int k (a / 8))) : ShrVC k a 3 K := ShrVC.lit 3 hb rfl (by decide) h
theorem ShrVC.s4 {k : IntKind} {a : Int} {K : Value → Prop} (hb : 4 ≤ k.bits) (h : K (.int k (a / 16))) : ShrVC k a 4 K := ShrVC.lit 4 hb rfl (by decide) h
theorem ShrVC.s6 {k : IntKind} {a : Int} {K : Value → Prop} (hb : 6 ≤ k.bits) (h : K (.int k (a / 64))) : ShrVC k a 6 K := ShrVC.lit 6 hb rfl (by decide) h
theorem ShrVC.s7 {k : IntKind} {a : Int} {K : Value → Prop} (hb : 7 ≤ k.bits) (h : K (.int k (a / 128))) : ShrVC k a 7 K := ShrVC.lit 7 hb rfl (by decide) h
theorem ShrVC.s8 {k : IntKind} {a : Int} {K : Value → Prop} (hb : 8 ≤ k.bits) (h : K (.int k (a / 256))) : ShrVC k a 8 K := ShrVC.lit 8 hb rfl (by decide) h
theorem ShrVC.s16 {k : IntKind} {a : Int} {K : Value → Prop} (hb : 16 ≤ k.bits) (h : K (.int k (a / 65536))) : ShrVC k a 16 K := ShrVC.lit 16 hb rfl (by decide) h
theorem ShrVC.s24 {k : IntKind} {a : Int} {K : Value → Prop} (hb : 24 ≤ k.bits) (h : K (.int k (a / 16777216))) : ShrVC k a 24 K := ShrVC.lit 24 hb rfl (by decide) h
theorem ShlVC.s1 {k : IntKind} {a : Int} {K : Value → Prop} (hb : 1 ≤ k.bits) (h : Arith k (a * 2) K) : ShlVC k a 1 K := ShlVC.lit 1 hb rfl (by decide) h
theorem ShlVC.s3 {k : IntKind} {a : Int} {K : Value → Prop} (hb : 3 ≤ k.bits) (h : Arith k (a * 8) K) : ShlVC k a 3 K := ShlVC.lit 3 hb rfl (by decide) h
theorem ShlVC.s4 {k : IntKind} {a : Int} {K : Value → Prop} (hb : 4 ≤ k.bits) (h : Arith k (a * 16) K) : ShlVC k a 4 K := ShlVC.lit 4 hb rfl (by decide) h
theorem ShlVC.s8 {k : IntKind} {a : Int} {K : Value → Prop} (hb : 8 ≤ k.bits) (h : Arith k (a * 256) K) : ShlVC k a 8 K := ShlVC.lit 8 hb rfl (by decide) h
theorem ShlVC.s16 {k : IntKind} {a : Int} {K : Value → Prop} (hb : 16 ≤ k.bits) (h : Arith k (a * 65536) K) : ShlVC k a 16 K := ShlVC.lit 16 hb rfl (by decide) h
theorem ShlVC.s24 {k : IntKind} {a : Int} {K : Value → Prop} (hb : 24 ≤ k.bits) (h : Arith k (a * 16777216) K) : ShlVC k a 24 K := ShlVC.lit 24 hb rfl (by decide) h
theorem BitsVC.m1 {k : IntKind} {a : Int} {K : Value → Prop} (hk : 1 < k.bits) (h0 : -2 ^ (k.bits - 1) ≤ a) (h1 : a < 2 ^ (k.bits - 1)) (h : K (.int k (a % 2))) : BitsVC .and k a 1 K := BitsVC.mask 1 (by decide) hk h0 h1 h
theorem BitsVC.m2 {k : IntKind} {a : Int} {K : Value → Prop} (hk : 2 < k.bits) (h0 : -2 ^ (k.bits - 1) ≤ a) (h1 : a < 2 ^ (k.bits - 1)) (h : K (.int k (a % 4))) : BitsVC .and k a 3 K := BitsVC.mask 2 (by decide) hk h0 h1 h
theorem BitsVC.m3 {k : IntKind} {a : Int} {K : Value → Prop} (hk : 3 < k.bits) (h0 : -2 ^ (k.bits - 1) ≤ a) (h1 : a < 2 ^ (k.bits - 1)) (h : K (.int k (a % 8))) : BitsVC .and k a 7 K := BitsVC.mask 3 (by decide) hk h0 h1 h
theorem BitsVC.m4 {k : IntKind} {a : Int} {K : Value → Prop} (hk : 4 < k.bits) (h0 : -2 ^ (k.bits - 1) ≤ a) (h1 : a < 2 ^ (k.bits - 1)) (h : K (.int k (a % 16))) : BitsVC .and k a 15 K := BitsVC.mask 4 (by decide) hk h0 h1 h
theorem BitsVC.m5 {k : IntKind} {a : Int} {K : Value → Prop} (hk : 5 < k.bits) (h0 : -2 ^ (k.bits - 1) ≤ a) (h1 : a < 2 ^ (k.bits - 1)) (h : K (.int k (a % 32))) : BitsVC .and k a 31 K := BitsVC.mask 5 (by decide) hk h0 h1 h
theorem BitsVC.m6 {k : IntKind} {a : Int} {K : Value → Prop} (hk : 6 < k.bits) (h0 : -2 ^ (k.bits - 1) ≤ a) (h1 : a < 2 ^ (k.bits - 1)) (h : K (.int k (a % 64))) : BitsVC .and k a 63 K := BitsVC.mask 6 (by decide) hk h0 h1 h
theorem BitsVC.m7 {k : IntKind} {a : Int} {K : Value → Prop} (hk : 7 < k.bits) (h0 : -2 ^ (k.bits - 1) ≤ a) (h1 : a < 2 ^ (k.bits - 1)) (h : K (.int k (a % 128))) : BitsVC .and k a 127 K := BitsVC.mask 7 (by decide) hk h0 h1 h
theorem BitsVC.m8 {k : IntKind} {a : Int} {K : Value → Prop} (hk : 8 < k.bits) (h0 : -2 ^ (k.bits - 1) ≤ a) (h1 : a < 2 ^ (k.bits - 1)) (h : K (.int k (a % 256))) : BitsVC .and k a 255 K := BitsVC.mask 8 (by decide) hk h0 h1 h
theorem BitsVC.m13 {k : IntKind} {a : Int} {K : Value → Prop} (hk : 13 < k.bits) (h0 : -2 ^ (k.bits - 1) ≤ a) (h1 : a < 2 ^ (k.bits - 1)) (h : K (.int k (a % 8192))) : BitsVC .and k a 8191 K := BitsVC.mask 13 (by decide) hk h0 h1 h
theorem BitsVC.m16 {k : IntKind} {a : Int} {K : Value → Prop} (hk : 16 < k.bits) (h0 : -2 ^ (k.bits - 1) ≤ a) (h1 : a < 2 ^ (k.bits - 1)) (h : K (.int k (a % 65536))) : BitsVC .and k a 65535 K := BitsVC.mask 16 (by decide) hk h0 h1 h

inductive RemVC (k : IntKind) (a b : Int) (K : Value → Prop) : Prop
  | raw (h : K (.int k (a.tmod b)))
theorem RemVC.out {k : IntKind} {a b : Int} {K : Value → Prop} : RemVC k a b K → K (.int k (a.tmod b)) | ⟨h⟩ => h
theorem RemVC.nn {k : IntKind} {a b : Int} {K : Value → Prop} (h0 : 0 ≤ a) (h : K (.int k (a % b))) : RemVC k a b K := ⟨by rw [Int.tmod_eq_emod_of_nonneg h0]; exact h⟩

inductive QuoVC (k : IntKind) (a b : Int) (K : Value → Prop) : Prop
  | raw (h : Arith k (a.tdiv b) K)
theorem QuoVC.out {k : IntKind} {a b : Int} {K : Value → Prop} : QuoVC k a b K → Arith k (a.tdiv b) K | ⟨h⟩ => h
theorem QuoVC.nn {k : IntKind} {a b : Int} {K : Value → Prop} (h0 : 0 ≤ a) (h : Arith k (a / b) K) : QuoVC k a b K := ⟨by rw [Int.tdiv_eq_ediv_of_nonneg h0]; exact h⟩

def intVC (op : BinOp) (k : IntKind) (a b : Int) (K : Value → Prop) : Prop :=
  match op with
  | .add => Arith k (a + b) K
  | .sub => Arith k (a - b) K
  | .mul => Arith k (a * b) K
  | .quo => Sure (b ≠ 0) (QuoVC k a b K)
  | .rem => Sure (b ≠ 0) (RemVC k a b K)
  | .and => BitsVC .and k a b K
  | .or => BitsVC .or k a b K
  | .xor => BitsVC .xor k a b K
  | .andNot => BitsVC .andNot k a b K
  | .eql => K (.bool (a == b))
  | .neq => K (.bool (a != b))
  | .lss => K (.bool (decide (a < b)))
  | .leq => K (.bool (decide (a ≤ b)))
  | .gtr => K (.bool (decide (b < a)))
  | .geq => K (.bool (decide (b ≤ a)))
  | .shl => Sure (0 ≤ b) (ShlVC k a b K)
  | .shr => Sure (0 ≤ b) (ShrVC k a b K)

def strVC (op : BinOp) (x y : ByteArray) (K : Value → Prop) : Prop :=
  match op with
  | .add => Sure (x.size + y.size ≤ 9223372036854775807) (K (.string (x ++ y)))
  | .eql => K (.bool (decide (x = y)))
  | .neq => K (.bool (!decide (x = y)))
  | _ => False

def binVC (op : BinOp) (u v : Value) (K : Value → Prop) : Prop :=
  match u, v with
  | .int k a, .int k' b => match op with
    | .shl => intVC .shl k a b K
    | .shr => intVC .shr k a b K
    | op => match sameK k k' with
      | true => intVC op k a b K
      | false => False
  | .string x, .string y => strVC op x y K
  | _, _ => False

/-- Kinds of values that == is asked of (beside numbers, strings). -/
inductive EqK where
  | bool | ptr | slice | map | func | iface
  deriving DecidableEq, Repr

def eqVC (q : EqK) (u v : Value) (K : Bool → Prop) : Prop :=
  match q, u, v with
  | .bool, .bool a, .bool b => K (a == b)
  | .ptr, .pointer none, .pointer none => K true
  | .ptr, .pointer none, .pointer (some _) => K false
  | .ptr, .pointer (some _), .pointer none => K false
  | .ptr, .pointer (some a), .pointer (some b) => Sure (a.block = b.block) (K (decide (a = b)))
  | .slice, .slice none _ _, .slice none _ _ => K true
  | .slice, .slice none _ _, .slice (some _) _ _ => K false
  | .slice, .slice (some _) _ _, .slice none _ _ => K false
  | .map, .map none, .map none => K true
  | .map, .map none, .map (some _) => K false
  | .map, .map (some _), .map none => K false
  | .func, .nilFunc, .nilFunc => K true
  | .func, .nilFunc, .func _ _ _ => K false
  | .func, .func _ _ _, .nilFunc => K false
  | .iface, .nilIface, .iface _ _ => K false
  | .iface, .iface _ _, .nilIface => K false
  | _, _, _ => False

inductive PE where
  | mv (x : Operand)
  | pick (c a b : Operand)
  | bin (op : BinOp) (x y : Operand)
  | eqv (q : EqK) (neg : Bool) (x y : Operand)
  | no (x : Operand)
  | neg (x : Operand)
  | cpl (x : Operand)
  | conv (k : IntKind) (x : Operand)
  | fld (x : Operand) (off : Nat)
  | ixa (x i : Operand) (len sz : Nat)
  | ixs (x i : Operand) (sz : Nat)
  | byt (x i : Operand)
  | elt (x i : Operand) (len sz : Nat) (agg : Bool)
  | sub (x : Operand) (lo hi : Option Operand)
  | sls (x : Operand) (lo hi : Option Operand) (sz : Nat)
  | sla (x : Operand) (lo hi : Option Operand) (n sz : Nat)
  | part (x : Operand) (off sz : Nat) (agg : Bool)
  | ext (x : Operand) (i : Nat)
  | fn (f : Fn) (first cap : List Operand)
  | mki (t : TypeId) (x : Operand)
  | build (zero : List Value) (parts : List (Nat × Nat × Operand))
  | lens (x : Operand)
  | lenl (x : Operand)
  | cvs (x : Operand)
  | lenc (n : Nat)
  | mm (isMax : Bool) (xs : List Operand)
  | nilc (x : Operand)

def bldK (ρ : Env) : List (Nat × Nat × Operand) → List Value → (List Value → Prop) → Prop
  | [], cur, K => frc cur K
  | (off, sz, x) :: r, cur, K => evK ρ x fun v =>
    match Nat.beq v.cells.toList.length sz with
    | true => match setL cur off v.cells.toList with
      | some cur' => bldK ρ r cur' K
      | none => False
    | false => False

def mmK (isMax : Bool) (k : IntKind) : Int → List Value → (Value → Prop) → Prop
  | a, [], K => K (.int k a)
  | a, .int _ b :: r, K => match isMax with
    | true => mmK isMax k (max a b) r K
    | false => mmK isMax k (min a b) r K
  | _, _ :: _, _ => False

/-- The bounds of a slice expression. -/
def loK (ρ : Env) (x : Option Operand) (K : Int → Prop) : Prop :=
  match x with
  | none => K 0
  | some x => evK ρ x fun v => onInt v fun _ n => K n

def hiK (ρ : Env) (x : Option Operand) (d : Nat) (K : Int → Prop) : Prop :=
  match x with
  | none => K d
  | some x => evK ρ x fun v => onInt v fun _ n => K n

/-- Where a slice of cells begins: at its array's very end it stays where it was. -/
def slsVC (lo : Option Operand) (b o l cap sz : Nat) (K : Addr → Prop) : Prop :=
  match lo with
  | none => K ⟨b, o, none⟩
  | some _ => BV (decide (cap = l)) (K ⟨b, o, none⟩) (K ⟨b, o + l * sz, none⟩)

def eltVC (agg : Bool) (cs : List Value) (off sz : Nat) (K : Value → Prop) : Prop :=
  match agg with
  | true => CutVC cs off sz fun vs => K (.agg vs.toArray)
  | false => NthVC cs off K

def onLen (v : Value) (K : Nat → Prop) : Prop :=
  match v with
  | .slice _ n _ => K n
  | _ => False

def nilVC (v : Value) (K : Value → Prop) : Prop :=
  match v with
  | .pointer (some a) => K (.pointer (some a))
  | .func (.func f) us vs => K (.func (.func f) us vs)
  | _ => False

def mmsVC (isMax : Bool) (vs : List Value) (K : Value → Prop) : Prop :=
  match vs with
  | .int k a :: r => mmK isMax k a r K
  | _ => False

def peVC (ρ : Env) (e : PE) (K : Value → Prop) : Prop :=
  match e with
  | .mv x => evK ρ x K
  | .pick c a b => evK ρ c fun v => onBool v fun t => BV t (evK ρ a K) (evK ρ b K)
  | .bin op x y => evK ρ x fun u => evK ρ y fun v => binVC op u v K
  | .eqv q neg x y => evK ρ x fun u => evK ρ y fun v => eqVC q u v fun t => match neg with
    | true => K (.bool (!t))
    | false => K (.bool t)
  | .no x => evK ρ x fun v => onBool v fun t => K (.bool (!t))
  | .neg x => evK ρ x fun v => onInt v fun k n => Arith k (0 - n) K
  | .cpl x => evK ρ x fun v => onInt v fun k n => CplVC k n K
  | .conv k x => evK ρ x fun v => onInt v fun _ n => Arith k n K
  | .fld x off => evK ρ x fun v => onPtr v fun b o => K (.pointer (some ⟨b, o + off, none⟩))
  | .ixa x i len sz => evK ρ x fun v => onPtr v fun b o => evK ρ i fun u => onInt u fun _ n =>
      Sure (0 ≤ n ∧ n < len) (K (.pointer (some ⟨b, o + n.toNat * sz, none⟩)))
  | .ixs x i sz => evK ρ x fun v => onSl v fun b o len _ => evK ρ i fun u => onInt u fun _ n =>
      Sure (0 ≤ n ∧ n < len) (K (.pointer (some ⟨b, o + n.toNat * sz, none⟩)))
  | .byt x i => evK ρ x fun v => onStr v fun s => evK ρ i fun u => onInt u fun _ n => Sure (0 ≤ n ∧ n < s.size) (K (.int .u8 (bt s n)))
  | .elt x i len sz agg => evK ρ x fun v => onAgg v fun cs => evK ρ i fun u => onInt u fun _ n =>
      Sure (0 ≤ n ∧ n < len) (eltVC agg cs (n.toNat * sz) sz K)
  | .sub x lo hi => evK ρ x fun v => onStr v fun s => loK ρ lo fun l => hiK ρ hi s.size fun h =>
      Sure (0 ≤ l ∧ l ≤ h ∧ h ≤ s.size) (K (.string (sb s l h)))
  | .sls x lo hi sz => evK ρ x fun v => onSlice v
      (fun b o len cap => loK ρ lo fun l => hiK ρ hi len fun h =>
        Sure (0 ≤ l ∧ l ≤ h ∧ h ≤ cap) (slsVC lo b o l.toNat cap sz fun a => K (.slice (some a) (h.toNat - l.toNat) (cap - l.toNat))))
      (fun len cap => loK ρ lo fun l => hiK ρ hi len fun h =>
        Sure (0 ≤ l ∧ l ≤ h ∧ h ≤ cap) (K (.slice none (h.toNat - l.toNat) (cap - l.toNat))))
  | .sla x lo hi n sz => evK ρ x fun v => onPtr v fun b o => loK ρ lo fun l => hiK ρ hi n fun h =>
      Sure (0 ≤ l ∧ l ≤ h ∧ h ≤ n) (slsVC lo b o l.toNat n sz fun a => K (.slice (some a) (h.toNat - l.toNat) (n - l.toNat)))
  | .part x off sz agg => evK ρ x fun v => onAgg v fun cs => eltVC agg cs off sz K
  | .ext x i => evK ρ x fun v => onTup v fun vs => NthVC vs i K
  | .fn f first cap => evsK ρ first fun us => evsK ρ cap fun vs => K (.func f us.toArray vs.toArray)
  | .mki t x => evK ρ x fun v => K (.iface t v)
  | .build zero parts => bldK ρ parts zero fun vs => K (.agg vs.toArray)
  | .lens x => evK ρ x fun v => onStr v fun s => K (.int .i64 (s.size : Int))
  | .lenl x => evK ρ x fun v => onLen v fun n => K (.int .i64 (n : Int))
  | .cvs x => evK ρ x fun v => onStr v fun s => K (.string s)
  | .lenc n => K (.int .i64 (n : Int))
  | .mm isMax xs => evsK ρ xs fun vs => mmsVC isMax vs K
  | .nilc x => evK ρ x fun v => nilVC v K

/-- A small number, laid open. -/
def lit {α : Type} (n : Nat) (k : Nat → Option α) : Option α :=
  match n with
  | 0 => k 0
  | 1 => k 1
  | 2 => k 2
  | 3 => k 3
  | 4 => k 4
  | 5 => k 5
  | 6 => k 6
  | 7 => k 7
  | 8 => k 8
  | 9 => k 9
  | 10 => k 10
  | 11 => k 11
  | 12 => k 12
  | 13 => k 13
  | 14 => k 14
  | 15 => k 15
  | 16 => k 16
  | 17 => k 17
  | 18 => k 18
  | 19 => k 19
  | 20 => k 20
  | 21 => k 21
  | 22 => k 22
  | 23 => k 23
  | 24 => k 24
  | 25 => k 25
  | 26 => k 26
  | 27 => k 27
  | 28 => k 28
  | 29 => k 29
  | 30 => k 30
  | 31 => k 31
  | 32 => k 32
  | 33 => k 33
  | 34 => k 34
  | 35 => k 35
  | 36 => k 36
  | 37 => k 37
  | 38 => k 38
  | 39 => k 39
  | 40 => k 40
  | 256 => k 256
  | n => k n

theorem lit_eq {α : Type} (n : Nat) (k : Nat → Option α) : lit n k = k n := by
  unfold lit; split <;> rfl

/-! What the model's operations are of these. -/

def szOf (P : Program) (t : TypeId) : Option Nat := (P.info? t).map (·.size)
def aggOf (P : Program) (t : TypeId) : Option Bool :=
  match P.underlying t with
  | some (.struct _) | some (.array _ _) => some true
  | some _ => some false
  | none => none

def eqkOf (P : Program) (t : TypeId) : Option EqK :=
  match P.underlying t with
  | some .bool => some .bool
  | some (.pointer e) => match szOf P e with
    | some 0 => none
    | some _ => some .ptr
    | none => none
  | some (.slice _) => some .slice
  | some (.map _ _) => some .map
  | some (.func _ _ _) => some .func
  | some (.interface _) => some .iface
  | _ => none

def isIntT (P : Program) (t : TypeId) : Bool :=
  match P.underlying t with
  | some (.int _) => true
  | _ => false

def isStrT (P : Program) (t : TypeId) : Bool :=
  match P.underlying t with
  | some .string => true
  | _ => false

def optOf {α β : Type} (x : Option α) (f : α → Option β) : Option β :=
  match x with
  | some a => f a
  | none => none

theorem optOf_some {α β : Type} {x : Option α} {f : α → Option β} {b : β} (h : optOf x f = some b) : ∃ a, x = some a ∧ f a = some b := by
  cases x with
  | none => cases h
  | some a => exact ⟨a, rfl, h⟩

def partsOf (P : Program) (fs : Array Field) : List (Nat × Operand) → Option (List (Nat × Nat × Operand))
  | [] => some []
  | (i, x) :: r => optOf fs[i]? fun f => optOf (szOf P f.type) fun sz => lit sz fun sz => lit f.offset fun off => optOf (partsOf P fs r) fun ps => some ((off, sz, x) :: ps)

def allSized (P : Program) : List Field → Bool
  | [] => true
  | f :: r => (szOf P f.type).isSome && allSized P r

def compP (P : Program) (op : Op) : Option PE :=
  match op with
  | .move x | .assign x => some (.mv x)
  | .pick c a b => some (.pick c a b)
  | .binOp op t x y _ =>
    match isIntT P t || isStrT P t, op with
    | true, _ => some (.bin op x y)
    | false, .eql => optOf (eqkOf P t) fun q => some (.eqv q false x y)
    | false, .neq => optOf (eqkOf P t) fun q => some (.eqv q true x y)
    | false, _ => none
  | .unOp .not _ x => some (.no x)
  | .unOp .neg _ x => some (.neg x)
  | .unOp .xor _ x => some (.cpl x)
  | .convert s d x => match isIntT P s, P.underlying d with
    | true, some (.int k) => some (.conv k x)
    | _, _ => match isStrT P s, isStrT P d with
      | true, true => some (.cvs x)
      | _, _ => none
  | .fieldAddr s x f => match P.underlying s with
    | some (.struct fs) => optOf fs[f]? fun fd => match szOf P fd.type with
      | some (_ + 1) => lit fd.offset fun off => some (.fld x off)
      | _ => none
    | _ => none
  | .indexAddr t x i => match P.underlying t with
    | some (.array n e) => optOf (szOf P e) fun sz => lit sz fun sz => some (.ixa x i n sz)
    | some (.slice e) => optOf (szOf P e) fun sz => lit sz fun sz => some (.ixs x i sz)
    | _ => none
  | .index t x i => match P.underlying t with
    | some .string => some (.byt x i)
    | some (.array n e) => optOf (szOf P e) fun sz => lit sz fun sz => optOf (aggOf P e) fun ag => some (.elt x i n sz ag)
    | _ => none
  | .slice t x lo hi none => match P.underlying t with
    | some .string => some (.sub x lo hi)
    | some (.slice e) => optOf (szOf P e) fun sz => lit sz fun sz => some (.sls x lo hi sz)
    | some (.array n e) => optOf (szOf P e) fun sz => lit sz fun sz => some (.sla x lo hi n sz)
    | _ => none
  | .field t x f => match P.underlying t with
    | some (.struct fs) => optOf fs[f]? fun fd => optOf (szOf P fd.type) fun sz => lit sz fun sz => lit fd.offset fun off => optOf (aggOf P fd.type) fun ag => some (.part x off sz ag)
    | _ => none
  | .extract x i => some (.ext x i)
  | .makeFunc f first cap => some (.fn f first.toList cap.toList)
  | .makeInterface t x => match P.underlying t with
    | some (.interface _) => none
    | some _ => some (.mki t x)
    | none => none
  | .build t parts => match P.underlying t with
    | some (.struct fs) => optOf (P.info? t) fun i => optOf i.zero fun z => match allSized P fs.toList with
      | true => optOf (partsOf P fs parts.toList) fun ps => some (.build z.cells.toList ps)
      | false => none
    | some (.array _ e) => optOf (P.info? t) fun i => optOf i.zero fun z => optOf (szOf P e) fun sz => lit sz fun sz =>
      some (.build z.cells.toList (parts.toList.map fun (i, x) => (i * sz, sz, x)))
    | _ => none
  | .call { callee := .builtin .len, args, argTypes } => match args, argTypes with
    | ⟨[x]⟩, ⟨t :: _⟩ => match P.underlying t with
      | some .string => some (.lens x)
      | some (.slice _) => some (.lenl x)
      | some (.array n _) => some (.lenc n)
      | _ => none
    | _, _ => none
  | .call { callee := .builtin .max, args, .. } => some (.mm true args.toList)
  | .call { callee := .builtin .min, args, .. } => some (.mm false args.toList)
  | .nilCheck x => some (.nilc x)
  | _ => none

end Go.Sv
