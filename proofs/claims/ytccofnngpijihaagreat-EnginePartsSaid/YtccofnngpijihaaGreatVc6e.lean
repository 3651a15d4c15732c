/- One order stands for all: the theorem. -/
import Derived.Test.YtccofnngpijihaaGreatVc6d
set_option linter.all false
namespace Go.Sv

theorem stabs_out {hist : List (Nat × Hs)} {H : HL} : ∀ {c : List Nat} {X : Prop}, stabs hist H c X → X ∧ ∀ i ∈ c, ∀ f, lookH hist i = some (.st f) → f H := by
  intro c
  induction c with
  | nil => intro X h; exact ⟨h, by simp⟩
  | cons j c ih =>
    intro X h
    simp only [stabs] at h
    split at h
    · rename_i f hf
      obtain ⟨h1, h2⟩ := h
      obtain ⟨h3, h4⟩ := ih h2
      refine ⟨h3, fun i hi g hg => ?_⟩
      rcases List.mem_cons.1 hi with rfl | hi
      · rw [hf] at hg; cases hg; exact h1
      · exact h4 i hi g hg
    · rename_i hno
      obtain ⟨h3, h4⟩ := ih h
      refine ⟨h3, fun i hi g hg => ?_⟩
      rcases List.mem_cons.1 hi with rfl | hi
      · exact absurd hg (hno g)
      · exact h4 i hi g hg

theorem countP_lt {α : Type} {p q : α → Bool} : ∀ (l : List α), (∀ x ∈ l, q x = true → p x = true) → (∃ x ∈ l, p x = true ∧ q x = false) → l.countP q < l.countP p := by
  intro l
  induction l with
  | nil => intro _ h; obtain ⟨x, hx, _⟩ := h; cases hx
  | cons a l ih =>
    intro h1 h2
    simp only [List.countP_cons]
    by_cases h : ∃ x ∈ l, p x = true ∧ q x = false
    · have := ih (fun x hx => h1 x (by simp [hx])) h
      have h0 : (if q a = true then 1 else 0) ≤ (if p a = true then 1 else 0) := by
        by_cases hq : q a = true
        · simp [hq, h1 a (by simp) hq]
        · simp [hq]
      omega
    · obtain ⟨x, hx, h3, h4⟩ := h2
      rcases List.mem_cons.1 hx with rfl | hx
      · have hle : l.countP q ≤ l.countP p := List.countP_mono_left fun y hy hq => h1 y (by simp [hy]) hq
        simp only [h3, h4, if_true, Bool.false_eq_true, if_false]
        omega
      · exact absurd ⟨x, hx, h3, h4⟩ h

def left (ops : Array Oper) (listed : Array Bool) : Nat := (List.range ops.size).countP fun j => !listed.getD j false

theorem left_lt {ops : Array Oper} {listed : Array Bool} {i : Nat} (hs : listed.size = ops.size) (hi : i < ops.size) (hn : ¬ L listed i) : left ops (listed.setIfInBounds i true) < left ops listed := by
  refine countP_lt _ (fun j _ hq => ?_) ⟨i, by simpa using hi, by simpa [L] using hn, ?_⟩
  · by_cases hji : i = j
    · subst hji; simp [hs, hi] at hq
    · rw [getD_set_ne false hji] at hq; exact hq
  · have : (listed.setIfInBounds i true).getD i false = true := by simp [hs, hi]
    rw [this]; rfl

section
variable {P : Program} {ops : Array Oper} {bs : List Nat} {l : List It} (G : Good P ops bs l) {n : Nat} {w0 : World} {ρ0 : Env} {F : List Ent}
include G

/-- The slots behind an operation. -/
theorem Good.slots_put {listed : Array Bool} {a : Act} {val : Nat → Value} {i : Nat} {o : Oper} (hs : Slots ops n ρ0 a listed val) (hsz : listed.size = ops.size) (ho : ops[i]? = some o) (hn : ¬ L listed i) (v : Value) :
    Slots ops n ρ0 (a.put o.dst v) (listed.setIfInBounds i true) (fun j => if j = i then v else val j) := by
  have hi : i < ops.size := (Array.getElem?_eq_some_iff.1 ho).1
  have hi' : i < listed.size := by omega
  refine ⟨?_, by rw [Act.put_defers', hs.defers], fun j oj d hoj hl hd hdn => ?_, fun u x hu hno => ?_⟩
  · cases o.dst <;> simp [Act.put, hs.size]
  · rcases (set_L hi').1 hl with hl | rfl
    · have hne : j ≠ i := fun e => hn (e ▸ hl)
      simp only [if_neg hne]
      have := hs.done j oj d hoj hl hd hdn
      cases hdo : o.dst with
      | none => simpa [Act.put] using this
      | some k =>
        have hk : k ≠ d := fun e => by
          subst e
          exact G.dst hoj ho hne hd hdo
        simp only [Act.put]
        rw [Array.getElem?_setIfInBounds_ne hk]
        exact this
    · rw [ho] at hoj; cases hoj
      simp [Act.put, hd, hs.size, hdn]
  · have := hs.old u x hu (fun j oj hoj hl => hno j oj hoj ((set_L hi').2 (.inl hl)))
    cases hdo : o.dst with
    | none => simpa [Act.put] using this
    | some k =>
      have hk : k ≠ u := fun e => by
        subst e
        exact hno i o ho ((set_L hi').2 (.inr rfl)) hdo
      simp only [Act.put]
      rw [Array.getElem?_setIfInBounds_ne hk]
      exact this

theorem Good.all_listed {listed : Array Bool} (hsz : listed.size = ops.size) (hr : Region.ready .any ops listed = []) : ∀ (k : Nat) {pre : List It} {y : It} {suf : List It}, pre.length = k → l = pre ++ y :: suf → L listed y.id := by
  intro k
  induction k using Nat.strongRecOn with
  | _ k ih =>
    intro pre y suf hk h
    obtain ⟨o, ho, _⟩ := G.inn y (by rw [h]; simp)
    by_cases hl : L listed y.id
    · exact hl
    · exfalso
      have hi : y.id < listed.size := by rw [hsz]; exact G.lt y (by rw [h]; simp)
      have hm : y.id ∈ Region.ready .any ops listed := by
        rw [mem_ready]
        refine ⟨?_, o, ho, fun e he hb => ?_⟩
        · have : listed.getD y.id false = false := by simpa [L] using hl
          simpa [hi] using this
        · obtain ⟨z, hz, hz1, _⟩ := (G.item h).2.2.2.1 o ho e he hb
          obtain ⟨p1, p2, rfl⟩ := List.append_of_mem hz
          rw [← hz1]
          exact ih p1.length (by simp at hk; omega) (pre := p1) (y := z) (suf := p2 ++ y :: suf) rfl (by rw [h]; simp)
      rw [hr] at hm
      cases hm

variable {Q : Exit → Env → HL → Prop}

theorem Good.finish {listed : Array Bool} (hsz : listed.size = ops.size) (hr : Region.ready .any ops listed = []) {a : Act} {w : World} {pre suf : List It} {val : Nat → Value} {ρ : Env} {H : HL}
    {hist : List (Nat × Hs)} {X : List (Nat × Ent)} (c : Cn P ops n w0 l ρ0 F (fun ρ H => Q .normal ρ H) (fun c H => Q (.panic c) [] H) listed w pre suf val ρ H hist X) (hs : Slots ops n ρ0 a listed val) :
    Iq F w0 n Q .normal a w := by
  have hall : ∀ y ∈ l, L listed y.id := fun y hy => by
    obtain ⟨p1, p2, h⟩ := List.append_of_mem hy
    exact G.all_listed hsz hr _ rfl h
  have c' : Cn P ops n w0 l ρ0 F (fun ρ H => Q .normal ρ H) (fun c H => Q (.panic c) [] H) listed w pre (suf ++ []) val ρ H hist X := by simpa using c
  obtain ⟨val', ρ', H', hist', X', c2, hs2⟩ := G.advance suf c' hs (fun y hy => by
    have hy' : y ∈ l := by rw [c.split]; simp [hy]
    by_cases hc : y.ph = .com
    · exact .inr ⟨hc, hall y hy'⟩
    · exact absurd (hall y hy') (c.notyet y hy hc))
  have hpre : l = pre ++ suf := by simpa using c2.split
  have hX : X' = [] := by
    cases hX' : X' with
    | nil => rfl
    | cons e r =>
      exfalso
      obtain ⟨h1, ⟨x, hx, e1, e2⟩, h3, _⟩ := c2.xs e (by rw [hX']; simp)
      have hxl : x ∈ l := by rw [hpre]; exact hx
      obtain ⟨z, hz, ez1, ez2⟩ := G.all x.id (G.lt x hxl)
      have ho := G.sameO hz hxl ez1
      have hph : z.ph = .com := by
        have p1 := G.phok hz
        have p2 := G.phok hxl
        unfold phOk at p1 p2
        rw [e2] at p2
        rw [ho] at p1
        cases hzp : z.ph with
        | com => rfl
        | prep => exact absurd hzp ez2
        | go => rw [hzp] at p1; cases hi : x.o.i <;> rw [hi] at p1 p2 <;> simp at p1 p2
      exact h3 z (by rw [← hpre]; exact hz) ⟨ez1.trans e1, hph⟩
  have hvc := c2.vc
  have hok := c2.ok
  rw [hX] at hok
  refine ⟨hs2.defers, hs2.size, ρ', H', hvc, fun u v hu => ?_, by simpa using hok⟩
  obtain ⟨hun, h⟩ := c2.rel u v hu
  rcases h with ⟨x, hx, e1, e2, rfl⟩ | ⟨hno, h0⟩
  · have hxl : x ∈ l := by rw [hpre]; exact hx
    obtain ⟨o, ho, hc⟩ := G.inn x hxl
    exact hs2.done x.id o u ho (hall x hxl) (by rw [← (compIn_dst hc).1]; exact e2) hun
  · refine hs2.old u v h0 fun j oj hoj hl hd => ?_
    obtain ⟨z, hz, ez1, ez2⟩ := G.all j (Array.getElem?_eq_some_iff.1 hoj).1
    obtain ⟨o, ho, hc⟩ := G.inn z hz
    rw [ez1, hoj] at ho; cases ho
    exact hno z (by rw [← hpre]; exact hz) ez2 (by rw [(compIn_dst hc).1]; exact hd)

end
end Go.Sv
