/- Maps: lists of entries, what is left of a round. -/
import Derived.Test.YtccofnngpijihaaGreatVcKey
set_option linter.all false
namespace Go.Sv
set_option linter.unusedSectionVars false
set_option linter.unusedVariables false
section
variable {K V : Type} [DecidableEq K]

theorem get_mem {L : List (K × V)} {a : K} {v : V} (h : get L a = some v) : (a, v) ∈ L := by
  induction L with
  | nil => simp [get] at h
  | cons p L ih =>
    obtain ⟨k, u⟩ := p
    simp only [get] at h
    split at h
    · rename_i hk; subst hk; cases h; simp
    · exact List.mem_cons_of_mem _ (ih h)

theorem get_of_mem {L : List (K × V)} {a : K} {v : V} (hn : (L.map Prod.fst).Nodup) (h : (a, v) ∈ L) : get L a = some v := by
  induction L with
  | nil => cases h
  | cons p L ih =>
    obtain ⟨k, u⟩ := p
    simp only [List.map_cons, List.nodup_cons] at hn
    simp only [get]
    rcases List.mem_cons.1 h with h | h
    · cases h; simp
    · rw [if_neg (fun e => hn.1 (by rw [e]; exact List.mem_map.2 ⟨_, h, rfl⟩))]
      exact ih hn.2 h

theorem get_none {L : List (K × V)} {a : K} : get L a = none ↔ ∀ p ∈ L, p.1 ≠ a := by
  induction L with
  | nil => simp [get]
  | cons p L ih =>
    obtain ⟨k, u⟩ := p
    simp only [get, List.mem_cons, forall_eq_or_imp]
    split
    · rename_i h; simp [h]
    · rename_i h; rw [ih]; simp [h]

theorem del_filter {L : List (K × V)} {a : K} {q : K × V → Bool} (hn : (L.map Prod.fst).Nodup) : del (L.filter q) a = L.filter fun p => q p && decide (p.1 ≠ a) := by
  induction L with
  | nil => rfl
  | cons p L ih =>
    obtain ⟨k, u⟩ := p
    simp only [List.map_cons, List.nodup_cons] at hn
    simp only [List.filter_cons]
    by_cases hk : k = a
    · subst hk
      have hno : ∀ x ∈ L, x.1 ≠ k := fun x hx e => hn.1 (by rw [← e]; exact List.mem_map.2 ⟨x, hx, rfl⟩)
      have hf : (L.filter fun p => q p && decide (p.1 ≠ k)) = L.filter q := by
        apply List.filter_congr
        intro x hx
        simp [hno x hx]
      cases hq : q (k, u)
      · simp only [Bool.false_and, Bool.false_eq_true, if_false]
        exact ih hn.2
      · simpa [del] using hf.symm
    · cases hq : q (k, u)
      · simp [ih hn.2]
      · simp [del, hk, ih hn.2]

/-- How many keys have not come out. -/
def leftN (L : List (K × V)) (S : List K) : Nat := (L.filter fun p => decide (p.1 ∉ S)).length

theorem leftN_lt {L : List (K × V)} {S : List K} {p : K × V} (hp : p ∈ L) (hs : p.1 ∉ S) : leftN L (p.1 :: S) < leftN L S := by
  unfold leftN
  exact filter_lt (fun q : K × V => decide (q.1 ∉ S)) (fun q => decide (q.1 ∉ p.1 :: S)) (fun x hx => by
    simp only [List.mem_cons, not_or, decide_eq_true_eq] at hx ⊢; exact hx.2) p (by simpa using hs) (by simp) L hp

theorem map_put {W : Type} (f : V → W) (L : List (K × V)) (a : K) (x : V) : (put L a x).map (fun p => (p.1, f p.2)) = put (L.map fun p => (p.1, f p.2)) a (f x) := by
  induction L with
  | nil => rfl
  | cons p L ih =>
    obtain ⟨k, u⟩ := p
    simp only [put, List.map_cons]
    split <;> simp [ih]

theorem map_del {W : Type} (f : V → W) (L : List (K × V)) (a : K) : (del L a).map (fun p => (p.1, f p.2)) = del (L.map fun p => (p.1, f p.2)) a := by
  induction L with
  | nil => rfl
  | cons p L ih =>
    obtain ⟨k, u⟩ := p
    simp only [del, List.map_cons]
    split <;> simp [ih]

theorem map_get {W : Type} (f : V → W) (L : List (K × V)) (a : K) : get (L.map fun p => (p.1, f p.2)) a = (get L a).map f := by
  induction L with
  | nil => rfl
  | cons p L ih =>
    obtain ⟨k, u⟩ := p
    simp only [get, List.map_cons]
    split <;> simp [ih]

theorem get_split {L : List (K × V)} {a : K} {v : V} (h : get L a = some v) : ∃ A B, L = A ++ (a, v) :: B ∧ get A a = none := by
  induction L with
  | nil => simp [get] at h
  | cons p L ih =>
    obtain ⟨k, u⟩ := p
    simp only [get] at h
    split at h
    · rename_i hk; subst hk; cases h; exact ⟨[], L, rfl, rfl⟩
    · rename_i hk
      obtain ⟨A, B, rfl, hA⟩ := ih h
      exact ⟨(k, u) :: A, B, rfl, by simp [get, hk, hA]⟩

theorem put_split {A B : List (K × V)} {a : K} {v x : V} (hA : get A a = none) : put (A ++ (a, v) :: B) a x = A ++ (a, x) :: B := by
  induction A with
  | nil => simp [put]
  | cons p A ih =>
    obtain ⟨k, u⟩ := p
    simp only [get] at hA
    split at hA
    · cases hA
    · rename_i hk
      simp only [List.cons_append, put]
      rw [if_neg hk, ih hA]

theorem del_split {A B : List (K × V)} {a : K} {v : V} (hA : get A a = none) : del (A ++ (a, v) :: B) a = A ++ B := by
  induction A with
  | nil => simp [del]
  | cons p A ih =>
    obtain ⟨k, u⟩ := p
    simp only [get] at hA
    split at hA
    · cases hA
    · rename_i hk
      simp only [List.cons_append, del]
      rw [if_neg hk, ih hA]

theorem put_new {L : List (K × V)} {a : K} {x : V} (h : get L a = none) : put L a x = L ++ [(a, x)] := by
  induction L with
  | nil => rfl
  | cons p L ih =>
    obtain ⟨k, v⟩ := p
    simp only [get] at h
    split at h
    · cases h
    · rename_i hne
      simp only [put]
      rw [if_neg hne, ih h]; rfl

theorem get_app {A B : List (K × V)} {a : K} : get (A ++ B) a = match get A a with | some v => some v | none => get B a := by
  induction A with
  | nil => rfl
  | cons p A ih =>
    obtain ⟨k, v⟩ := p
    simp only [List.cons_append, get]
    split
    · rfl
    · exact ih
end

/-- A piece that stands for several. -/
theorem Spec.many {P : Program} {f : FuncId} {args : List Value} {pre pre' : HL} {post : Out → HL → Prop} (h : Spec P f args pre post) (hf : flat pre = flat pre') : Spec P f args pre' post := by
  intro F w0 w hok
  exact h F w0 w (hok.perm (by rw [hf]))

/-- Things behind pointers, by keys. -/
inductive Ptrs {K X : Type} (R : Nat → X → List Ent → Prop) : List (K × Nat × X) → List Ent → Prop where
  | nil : Ptrs R [] []
  | cons {k : K} {b : Nat} {x : X} {L : List (K × Nat × X)} {T U : List Ent} (h : R b x T) (t : Ptrs R L U) : Ptrs R ((k, b, x) :: L) (T ++ U)

section
variable {K X : Type} {R : Nat → X → List Ent → Prop}
theorem Ptrs.split : ∀ {A B : List (K × Nat × X)} {k : K} {b : Nat} {x : X} {T : List Ent}, Ptrs R (A ++ (k, b, x) :: B) T → ∃ TA Tx TB, T = TA ++ (Tx ++ TB) ∧ Ptrs R A TA ∧ R b x Tx ∧ Ptrs R B TB := by
  intro A
  induction A with
  | nil =>
    intro B k b x T h
    cases h with
    | cons h t => exact ⟨[], _, _, rfl, .nil, h, t⟩
  | cons p A ih =>
    intro B k b x T h
    obtain ⟨k', b', x'⟩ := p
    cases h with
    | cons h t =>
      obtain ⟨TA, Tx, TB, rfl, h1, h2, h3⟩ := ih t
      exact ⟨_ ++ TA, Tx, TB, by simp, .cons h h1, h2, h3⟩

theorem Ptrs.app : ∀ {A B : List (K × Nat × X)} {TA TB : List Ent}, Ptrs R A TA → Ptrs R B TB → Ptrs R (A ++ B) (TA ++ TB) := by
  intro A
  induction A with
  | nil => intro B TA TB h1 h2; cases h1; exact h2
  | cons p A ih =>
    intro B TA TB h1 h2
    cases h1 with
    | cons h t => rw [List.append_assoc]; exact .cons h (ih t h2)

theorem Ptrs.one {k : K} {b : Nat} {x : X} {T : List Ent} (h : R b x T) : Ptrs R [(k, b, x)] T := by
  have := Ptrs.cons (k := k) h Ptrs.nil
  simpa using this
end
end Go.Sv
