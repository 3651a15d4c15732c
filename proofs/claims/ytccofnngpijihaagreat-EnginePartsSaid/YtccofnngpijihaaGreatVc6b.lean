/- One order stands for all: what the checks give. -/
import Derived.Test.YtccofnngpijihaaGreatVc6a
set_option linter.all false
namespace Go.Sv

def L (listed : Array Bool) (i : Nat) : Prop := listed.getD i false = true
def B (bs : List Nat) (i x : Nat) : Prop := isIn ((nth bs i).getD 0) x = true

structure Good (P : Program) (ops : Array Oper) (bs : List Nat) (l : List It) : Prop where
  walk : ∀ pre y suf, l = pre ++ y :: suf → itemOk ops bs pre y = true
  all : ∀ i, i < ops.size → ∃ x ∈ l, x.id = i ∧ x.ph ≠ .prep
  lt : ∀ x ∈ l, x.id < ops.size
  pair : ∀ i j, i < ops.size → j < ops.size → i ≠ j → pairOk ops bs i j = true ∧ dstOk ops i j = true
  bit : ∀ i x, i < ops.size → x < ops.size → bitOk ops bs i x = true
  nosel : Region.noSelect ops = true
  inn : ∀ x ∈ l, ∃ o, ops[x.id]? = some o ∧ compIn P ops o = some x.o

theorem walkOk_out {ops : Array Oper} {bs : List Nat} : ∀ (l p : List It), walkOk ops bs p l = true → ∀ pre y suf, l = pre ++ y :: suf → itemOk ops bs (p ++ pre) y = true := by
  intro l
  induction l with
  | nil => intro p _ pre y suf h; cases pre <;> cases h
  | cons z l ih =>
    intro p h pre y suf he
    simp only [walkOk, Bool.and_eq_true] at h
    cases pre with
    | nil => cases he; simpa using h.1
    | cons x pre =>
      cases he
      have := ih (p ++ [z]) h.2 pre y suf rfl
      simpa using this

theorem compL_get {P : Program} {ops : Array Oper} : ∀ (l : List Oper) (il : List In), compL P ops l = some il → ∀ i x, nth il i = some x → ∃ o, l[i]? = some o ∧ compIn P ops o = some x := by
  intro l
  induction l with
  | nil => intro il h i x hx; simp [compL] at h; subst h; simp [nth] at hx
  | cons o l ih =>
    intro il h i x hx
    simp only [compL] at h
    obtain ⟨y, hy, h⟩ := optOf_some h
    obtain ⟨r, hr, h⟩ := optOf_some h
    cases h
    cases i with
    | zero => simp [nth] at hx; subst hx; exact ⟨o, rfl, hy⟩
    | succ i => simpa using ih r hr i x (by simpa [nth] using hx)

theorem attach_mem {il : List In} {bs : List Nat} : ∀ (ids pre : List (Nat × Ph)) (l : List It), attach il bs pre ids = some l → ∀ y ∈ l, nth il y.id = some y.o := by
  intro ids
  induction ids with
  | nil => intro pre l h; simp [attach] at h; subst h; simp
  | cons p ids ih =>
    intro pre l h y hy
    obtain ⟨i, ph⟩ := p
    simp only [attach, lit_eq, litL_eq] at h
    obtain ⟨o, ho, h⟩ := optOf_some h
    obtain ⟨r, hr, h⟩ := optOf_some h
    cases h
    rcases List.mem_cons.1 hy with rfl | hy
    · exact ho
    · exact ih _ r hr y hy

theorem good_of {P : Program} {ops : Array Oper} {l : List It} (hl : schedD P ops = some l) (h : dOk P ops = true) : ∃ bs, Good P ops bs l := by
  unfold dOk at h
  rw [hl] at h
  simp only [Bool.and_eq_true, List.all_eq_true, List.mem_range, Bool.or_eq_true, List.any_eq_true, decide_eq_true_eq] at h
  obtain ⟨⟨⟨⟨⟨h1, h2⟩, h3⟩, h4⟩, h5⟩, h6⟩ := h
  refine ⟨allBits ops.toList [], ⟨fun pre y suf he => by simpa using walkOk_out l [] h1 pre y suf he, fun i hi => ?_, fun x hx => Nat.le_of_ble_eq_true (h3 x hx), fun i j hi hj hne => ?_,
    fun i x hi hx => h5 i hi x hx, h6, fun x hx => ?_⟩⟩
  · obtain ⟨x, hx, hid, hph⟩ := h2 i hi
    exact ⟨x, hx, Nat.eq_of_beq_eq_true hid, hph⟩
  · rcases h4 i hi j hj with h | h
    · exact absurd (Nat.eq_of_beq_eq_true h) hne
    · exact h
  · unfold schedD at hl
    obtain ⟨il, hil, hl⟩ := optOf_some hl
    obtain ⟨o, ho, hc⟩ := compL_get _ _ hil _ _ (attach_mem _ _ _ hl x hx)
    exact ⟨o, by simpa using ho, hc⟩

section
variable {P : Program} {ops : Array Oper} {bs : List Nat} {l : List It} (G : Good P ops bs l)
include G

theorem Good.item {pre : List It} {y : It} {suf : List It} (h : l = pre ++ y :: suf) : (∀ x ∈ pre, ¬ (x.id = y.id ∧ x.ph = y.ph)) ∧ phOk y = true ∧ (y.ph = .com → ∃ x ∈ pre, x.id = y.id ∧ x.ph = .prep) ∧
    (∀ o, ops[y.id]? = some o → ∀ e ∈ o.after, Region.binds .any e = true → ∃ x ∈ pre, x.id = e.on ∧ x.ph ≠ .prep) ∧
    (∀ x ∈ pre, x.id = y.id ∨ plike x = true ∨ y.ph = .com ∨ B bs y.id x.id) ∧ (isEf y = true → ∀ x ∈ pre, isRd x = true → B bs y.id x.id ∨ x.id ∈ y.chk) := by
  have hw := G.walk pre y suf h
  obtain ⟨o, ho, _⟩ := G.inn y (by rw [h]; simp)
  unfold itemOk at hw
  simp only [Bool.and_eq_true, Bool.not_eq_true', List.any_eq_false, Bool.or_eq_true, decide_eq_true_eq, List.any_eq_true, List.all_eq_true, same, ho, Option.any_some, Array.mem_toList_iff, List.contains_iff_mem] at hw
  obtain ⟨⟨⟨⟨⟨h1, h2⟩, h3⟩, h4⟩, h5⟩, h6⟩ := hw
  refine ⟨fun x hx ⟨e1, e2⟩ => h1 x hx ⟨by rw [e1]; simp, e2⟩, h2, fun hc => ?_, fun o' ho' e he hb => ?_, fun x hx => ?_, fun hef x hx hr => ?_⟩
  · rcases h3 with h3 | ⟨x, hx, e1, e2⟩
    · exact absurd hc h3
    · exact ⟨x, hx, Nat.eq_of_beq_eq_true e1, e2⟩
  · rw [ho] at ho'; cases ho'
    rcases h4 e he with h4 | ⟨x, hx, e1, e2⟩
    · rw [hb] at h4; simp at h4
    · exact ⟨x, hx, Nat.eq_of_beq_eq_true e1, e2⟩
  · rcases h5 x hx with ((h5 | h5) | h5) | h5
    · exact .inl (Nat.eq_of_beq_eq_true h5)
    · exact .inr (.inl h5)
    · exact .inr (.inr (.inl h5))
    · exact .inr (.inr (.inr h5))
  · rcases h6 with h6 | h6
    · rw [hef] at h6; simp at h6
    · rcases h6 x hx with (h6 | h6) | h6
      · rw [hr] at h6; simp at h6
      · exact .inl h6
      · exact .inr h6

theorem Good.bits {i x : Nat} (hi : i < ops.size) (hx : x < ops.size) (h : B bs i x) {o : Oper} (ho : ops[i]? = some o) : ∃ e ∈ o.after, Region.binds .any e = true ∧ (e.on = x ∨ B bs e.on x) := by
  have hb := G.bit i x hi hx
  unfold bitOk at hb
  simp only [Bool.or_eq_true, Bool.not_eq_true', ho, Option.any_some, List.any_eq_true, Bool.and_eq_true, Array.mem_toList_iff] at hb
  rcases hb with hb | ⟨e, he, hb, h1⟩
  · rw [show isIn ((nth bs i).getD 0) x = true from h] at hb; cases hb
  · refine ⟨e, he, hb, ?_⟩
    rcases h1 with h1 | h1
    · exact .inl (Nat.eq_of_beq_eq_true h1)
    · exact .inr h1

/-- What an operation comes behind stands ahead of it. -/
theorem Good.ahead : ∀ (k : Nat) {pre : List It} {y : It} {suf : List It} {x : Nat}, pre.length = k → l = pre ++ y :: suf → x < ops.size → B bs y.id x → ∃ z ∈ pre, z.id = x ∧ z.ph ≠ .prep := by
  intro k
  induction k using Nat.strongRecOn with
  | _ k ih =>
    intro pre y suf x hk h hx hb
    obtain ⟨o, ho, _⟩ := G.inn y (by rw [h]; simp)
    obtain ⟨e, he, hbe, h1⟩ := G.bits (G.lt y (by rw [h]; simp)) hx hb ho
    obtain ⟨z, hz, hz1, hz2⟩ := (G.item h).2.2.2.1 o ho e he hbe
    rcases h1 with h1 | h1
    · exact ⟨z, hz, hz1.trans h1, hz2⟩
    · obtain ⟨p1, p2, rfl⟩ := List.append_of_mem hz
      obtain ⟨z', hz', h2⟩ := ih p1.length (by simp at hk; omega) (pre := p1) (y := z) (suf := p2 ++ y :: suf) rfl (by rw [h]; simp) hx (by rw [hz1]; exact h1)
      exact ⟨z', List.mem_append.2 (.inl hz'), h2⟩

/-- What an operation that is listed, or may be next, comes behind is listed. -/
theorem Good.behind {listed : Array Bool} (hd : ∀ i o, L listed i → ops[i]? = some o → ∀ e ∈ o.after, Region.binds .any e = true → L listed e.on) :
    ∀ (k : Nat) {pre : List It} {y : It} {suf : List It} {x : Nat}, pre.length = k → l = pre ++ y :: suf → (∀ o, ops[y.id]? = some o → ∀ e ∈ o.after, Region.binds .any e = true → L listed e.on) →
      x < ops.size → B bs y.id x → L listed x := by
  intro k
  induction k using Nat.strongRecOn with
  | _ k ih =>
    intro pre y suf x hk h hy hx hb
    obtain ⟨o, ho, _⟩ := G.inn y (by rw [h]; simp)
    obtain ⟨e, he, hbe, h1⟩ := G.bits (G.lt y (by rw [h]; simp)) hx hb ho
    have hl := hy o ho e he hbe
    rcases h1 with h1 | h1
    · rw [← h1]; exact hl
    · obtain ⟨z, hz, hz1, hz2⟩ := (G.item h).2.2.2.1 o ho e he hbe
      obtain ⟨p1, p2, rfl⟩ := List.append_of_mem hz
      exact ih p1.length (by simp at hk; omega) (pre := p1) (y := z) (suf := p2 ++ y :: suf) rfl (by rw [h]; simp) (fun o' ho' e' he' hb' => hd z.id o' (by rw [hz1]; exact hl) ho' e' he' hb') hx (by rw [hz1]; exact h1)

/-- Operations that touch a common slot stand in an order. -/
theorem Good.touch {i j : Nat} {x y : Oper} (hi : ops[i]? = some x) (hj : ops[j]? = some y) (hne : i ≠ j) {d : Nat} (hd : x.dst = some d) (ht : d ∈ y.looksAt ops) : B bs j i ∨ B bs i j := by
  have hi' : i < ops.size := (Array.getElem?_eq_some_iff.1 hi).1
  have hj' : j < ops.size := (Array.getElem?_eq_some_iff.1 hj).1
  have hp := (G.pair i j hi' hj' hne).1
  unfold pairOk at hp
  simp only [Bool.or_eq_true, hi, hj, Bool.and_eq_true] at hp
  rcases hp with (hp | hp) | ⟨hp, _⟩
  · exact .inl hp
  · exact .inr hp
  · exact absurd ht ((Oper.apart_spec hp).1 d hd)

theorem Good.dst {i j : Nat} {x y : Oper} (hi : ops[i]? = some x) (hj : ops[j]? = some y) (hne : i ≠ j) {d : Nat} (hd : x.dst = some d) : y.dst ≠ some d := by
  intro hd'
  have hi' : i < ops.size := (Array.getElem?_eq_some_iff.1 hi).1
  have hj' : j < ops.size := (Array.getElem?_eq_some_iff.1 hj).1
  have hp := (G.pair i j hi' hj' hne).2
  unfold dstOk at hp
  simp [hi, hj, hd, hd'] at hp

end

/-! One operation in an act that agrees with the slots that it looks at. -/

def HoldsOn (ops : Array Oper) (o : Oper) (ρ : Env) (a : Act) : Prop := ∀ u ∈ o.looksAt ops, ∀ v, look ρ u = some v → a.tmps[u]? = some v

theorem hold_over {ops : Array Oper} {o : Oper} {ρ : Env} {n : Nat} {a : Act} (hs : a.tmps.size = n) (hρ : ∀ u v, look ρ u = some v → u < n) (h : HoldsOn ops o ρ a)
    (hsel : ∀ cs b, o.op ≠ .select cs b) : ∃ a', Holds ρ a' ∧ execOp a'.eval o = execOp a.eval o := by
  refine ⟨⟨Array.ofFn (n := n) fun u => if u.val ∈ o.looksAt ops then a.tmps.getD u.val undef else (look ρ u.val).getD undef, a.defers⟩, fun u v hu => ?_, ?_⟩
  · have hlt := hρ u v hu
    simp only [Array.getElem?_ofFn, hlt, dite_true]
    by_cases hm : u ∈ o.looksAt ops
    · rw [if_pos hm, Array.getD_eq_getD_getElem?, h u hm v hu]; rfl
    · rw [if_neg hm, hu]; rfl
  · refine execOp_congr o hsel fun x hx => ?_
    cases x with
    | tmp t =>
      have hm : t ∈ o.looksAt ops := by
        simp only [Oper.looksAt, List.mem_append, List.mem_filterMap]
        exact .inl ⟨.tmp t, by simpa using hx, rfl⟩
      simp only [Act.eval, Array.getD_eq_getD_getElem?, Array.getElem?_ofFn]
      by_cases hlt : t < n
      · simp [hlt, hm]
      · have hge : a.tmps.size ≤ t := by rw [hs]; exact Nat.le_of_not_lt hlt
        simp [hlt, Array.getElem?_eq_none hge]
    | _ => rfl

/-- Is the operation wanted, by the slots? -/
def wants (ρ : Env) (o : In) : Option Bool :=
  match o.g with
  | none => some true
  | some (s, w) => match look ρ s with
    | some (.bool t) => some (t == w)
    | some (.tuple _) => some false
    | _ => none

theorem look_again {ρ : Env} {s : Nat} {v : Value} (h : look ρ s = some v) (u : Nat) : look ((s, v) :: ρ) u = look ρ u := by
  by_cases hu : s = u
  · subst hu; rw [look_cons_same, h]
  · rw [look_cons_other _ _ hu]

theorem gVC.out {o : In} {ρ : Env} {run pass : Env → Prop} (h : gVC o ρ run pass) : ∃ ρ', (∀ u, look ρ' u = look ρ u) ∧ ((wants ρ o = some true ∧ run ρ') ∨ (wants ρ o = some false ∧ pass ρ')) := by
  unfold gVC at h
  split at h
  · rename_i hg
    exact ⟨ρ, fun _ => rfl, .inl ⟨by simp [wants, hg], h⟩⟩
  · rename_i s want hg
    obtain ⟨v, hv, h⟩ := evK.out h
    have hv' : look ρ s = some v := hv
    rcases onGuard.out h with ⟨t, rfl, h⟩ | ⟨vs, rfl, h⟩
    · cases want with
      | true =>
        cases t with
        | true => exact ⟨_, look_again hv', .inl ⟨by simp [wants, hg, hv'], h.ht rfl⟩⟩
        | false => exact ⟨_, look_again hv', .inr ⟨by simp [wants, hg, hv'], h.hf rfl⟩⟩
      | false =>
        cases t with
        | true => exact ⟨_, look_again hv', .inr ⟨by simp [wants, hg, hv'], h.ht rfl⟩⟩
        | false => exact ⟨_, look_again hv', .inl ⟨by simp [wants, hg, hv'], h.hf rfl⟩⟩
    · exact ⟨ρ, fun _ => rfl, .inr ⟨by simp [wants, hg, hv'], h⟩⟩

theorem wants_run {P : Program} {ops : Array Oper} {o : Oper} {i : In} (hc : compIn P ops o = some i) {ρ : Env} {a : Act} (h : HoldsOn ops o ρ a) {b : Bool} (hw : wants ρ i = some b) :
    Region.wanted o (yielded ops a.tmps) = b := by
  unfold compIn at hc
  obtain ⟨j, hj, hc⟩ := optOf_some hc
  split at hc
  · rename_i hg
    cases hc
    simp [wants] at hw
    subst hw
    simp [Region.wanted, hg]
  · rename_i k w hg
    obtain ⟨oj, hoj, hc⟩ := optOf_some hc
    obtain ⟨d, hd, hc⟩ := optOf_some hc
    cases hc
    have hm : d ∈ o.looksAt ops := by simp [Oper.looksAt, hg, hoj, hd]
    simp only [wants] at hw
    split at hw
    · rename_i t ht
      have := h d hm _ ht
      have hy : yielded ops a.tmps k = some t := by simp only [yielded, hoj, hd, Option.bind_some, this]
      cases hw
      simp only [Region.wanted, hg, hy]
      cases t <;> cases w <;> rfl
    · rename_i vs ht
      have := h d hm _ ht
      have hy : yielded ops a.tmps k = none := by simp only [yielded, hoj, hd, Option.bind_some, this]
      cases hw
      simp [Region.wanted, hg, hy]
    · cases hw

theorem compIn_dst {P : Program} {ops : Array Oper} {o : Oper} {i : In} (hc : compIn P ops o = some i) : i.d = o.dst ∧ compI P o = some i.i := by
  unfold compIn at hc
  obtain ⟨j, hj, hc⟩ := optOf_some hc
  split at hc
  · cases hc; exact ⟨rfl, hj⟩
  · obtain ⟨oj, hoj, hc⟩ := optOf_some hc
    obtain ⟨d, hd, hc⟩ := optOf_some hc
    cases hc; exact ⟨rfl, hj⟩

/-- The operation gives a value here. -/
def SG (P : Program) (ops : Array Oper) (o : Oper) (a : Act) (w : World) (v : Value) : Prop :=
  (Region.wanted o (yielded ops a.tmps) = true ∧ (execOp a.eval o).run P w = .ok (.value v) w) ∨ (Region.wanted o (yielded ops a.tmps) = false ∧ v = undef)

theorem SG.wpOp {P : Program} {ops : Array Oper} {i : Nat} {o : Oper} {a : Act} {w : World} {v : Value} (hi : ops[i]? = some o) (h : SG P ops o a w v) {Q : Exit → Act → World → Prop} {K : Act → World → Prop}
    (k : K (a.put o.dst v) w) : wpOp P ops Q i K a w := by
  unfold Go.wpOp
  simp only [hi]
  rcases h with ⟨hw, hr⟩ | ⟨hw, rfl⟩
  · simp only [hw, if_true, Oper.wp, hr, Oper.upon]; exact .inl k
  · simp only [hw, Bool.false_eq_true, if_false]; exact k

end Go.Sv
