/- Rows of things. -/
import Derived.Test.YtccofnngpijihaaGreatVc12
set_option linter.all false
namespace Go.Sv

theorem takeL_mk {α : Type} : ∀ (n : Nat) (l : List α), n ≤ l.length → takeL n l = some (l.take n) := by
  intro n
  induction n with
  | zero => intro l _; rfl
  | succ n ih =>
    intro l hl
    cases l with
    | nil => simp at hl
    | cons x l => simp [takeL, ih l (by simpa using hl)]

theorem cutL_mk {α : Type} : ∀ (k n : Nat) (l : List α), k + n ≤ l.length → cutL k n l = some ((l.drop k).take n) := by
  intro k
  induction k with
  | zero => intro n l h; simpa [cutL] using takeL_mk n l (by omega)
  | succ k ih =>
    intro n l h
    cases l with
    | nil => simp at h
    | cons x l => simpa [cutL] using ih n l (by simp at h; omega)

theorem cutL_pre {α : Type} {k n m : Nat} {l xs : List α} (h : l.take m = xs) (hm : m ≤ l.length) (hk : k + n ≤ m) : cutL k n l = some ((xs.drop k).take n) := by
  rw [cutL_mk k n l (by omega), ← h, List.drop_take, List.take_take, Nat.min_eq_left (by omega)]

/-- Things one behind the other, so many cells each. -/
theorem flat_row {α : Type} {f : α → List Value} {size : Nat} (hf : ∀ y, (f y).length = size) : ∀ (ys : List α) (i : Nat) (y : α), ys[i]? = some y → ((ys.flatMap f).drop (i * size)).take size = f y := by
  intro ys
  induction ys with
  | nil => intro i y h; simp at h
  | cons z ys ih =>
    intro i y h
    cases i with
    | zero =>
      simp at h; subst h
      simp only [Nat.zero_mul, List.drop_zero, List.flatMap_cons]
      rw [List.take_left' (hf z)]
    | succ i =>
      simp only [List.getElem?_cons_succ] at h
      rw [Nat.succ_mul, Nat.add_comm, List.flatMap_cons, ← List.drop_drop, List.drop_left' (hf z)]
      exact ih i y h

theorem flat_len {α : Type} {f : α → List Value} {size : Nat} (hf : ∀ y, (f y).length = size) (ys : List α) : (ys.flatMap f).length = ys.length * size := by
  induction ys with
  | nil => simp
  | cons z ys ih => simp only [List.flatMap_cons, List.length_append, hf, ih, List.length_cons, Nat.succ_mul]; omega

/-- What lies in a slice of a function's own. -/
theorem Own.cut {α : Type} {size n cap : Nat} {cur : Array Value} {f : α → List Value} {ys : List α} (hf : ∀ y, (f y).length = size) (h : cur.toList.take (n * size) = ys.flatMap f) (hs : cur.size = cap * size) (hn : n ≤ cap)
    (i : Nat) (y : α) (hy : ys[i]? = some y) (hi : i < n) : cutL (i * size) size cur.toList = some (f y) := by
  have h1 : i * size + size ≤ n * size := by rw [← Nat.succ_mul]; exact Nat.mul_le_mul_right _ hi
  have h2 : n * size ≤ cap * size := Nat.mul_le_mul_right _ hn
  rw [cutL_pre h (by simp; omega) h1, flat_row hf ys i y hy]
end Go.Sv
