/- One order stands for all: the proof. -/
import Derived.Test.YtccofnngpijihaaGreatVc6b
set_option linter.all false
namespace Go.Sv

def Rel (n : Nat) (ρ0 ρ : Env) (pre : List It) (val : Nat → Value) : Prop :=
  ∀ u v, look ρ u = some v → u < n ∧ ((∃ x ∈ pre, x.ph ≠ .prep ∧ x.o.d = some u ∧ v = val x.id) ∨ ((∀ x ∈ pre, x.ph ≠ .prep → x.o.d ≠ some u) ∧ look ρ0 u = some v))

structure Slots (ops : Array Oper) (n : Nat) (ρ0 : Env) (a : Act) (listed : Array Bool) (val : Nat → Value) : Prop where
  size : a.tmps.size = n
  defers : a.defers = []
  done : ∀ i o d, ops[i]? = some o → L listed i → o.dst = some d → d < n → a.tmps[d]? = some (val i)
  old : ∀ u v, look ρ0 u = some v → (∀ i o, ops[i]? = some o → L listed i → o.dst ≠ some u) → a.tmps[u]? = some v

def PS (P : Program) (ops : Array Oper) (n : Nat) (w0 : World) (x : It) (ρx : Env) (H : HL) (v : Value) : Prop :=
  ∀ o, ops[x.id]? = some o → ∀ a : Act, a.tmps.size = n → HoldsOn ops o ρx a → ∀ F w, Ok F H w0 w → SG P ops o a w v

structure PendGo (P : Program) (ops : Array Oper) (n : Nat) (w0 : World) (l : List It) (ρ0 : Env) (x : It) (H : HL) (hist : List (Nat × Hs)) (val : Nat → Value) : Prop where
  ex : ∃ prex sufx ρx, l = prex ++ x :: sufx ∧ Rel n ρ0 ρx prex val ∧ PS P ops n w0 x ρx H (val x.id) ∧
    ((∀ H', PS P ops n w0 x ρx H' (val x.id)) ∨ (isRd x = true ∧ ∃ f, lookH hist x.id = some (.st f) ∧ ∀ H', f H' → PS P ops n w0 x ρx H' (val x.id)))

structure PendPrep (P : Program) (ops : Array Oper) (n : Nat) (l : List It) (ρ0 : Env) (x : It) (hist : List (Nat × Hs)) (val : Nat → Value) : Prop where
  ex : ∃ prex sufx ρx, l = prex ++ x :: sufx ∧ Rel n ρ0 ρx prex val ∧ ∀ o, ops[x.id]? = some o → ∀ a : Act, a.tmps.size = n → HoldsOn ops o ρx a →
    (∃ m ob, lookH hist x.id = some (.ob m ob) ∧ Region.wanted o (yielded ops a.tmps) = true ∧ ∀ w, (execOp a.eval o).run P w = .ok (.value (m.val w.heap.size)) (w.alloc ob)) ∨
    ((∀ m ob, lookH hist x.id ≠ some (.ob m ob)) ∧ Region.wanted o (yielded ops a.tmps) = false)

/-- Edges of what is listed are listed. -/
def Down (ops : Array Oper) (listed : Array Bool) : Prop := ∀ i o, L listed i → ops[i]? = some o → ∀ e ∈ o.after, Region.binds .any e = true → L listed e.on

structure Cn (P : Program) (ops : Array Oper) (n : Nat) (w0 : World) (l : List It) (ρ0 : Env) (F : List Ent) (K : Env → HL → Prop) (E : List PanicEntry → HL → Prop) (listed : Array Bool) (w : World)
    (pre suf : List It) (val : Nat → Value) (ρ : Env) (H : HL) (hist : List (Nat × Hs)) (X : List (Nat × Ent)) : Prop where
  split : l = pre ++ suf
  vc : dVC P n suf hist K E ρ H
  rel : Rel n ρ0 ρ pre val
  ok : Ok (X.map (·.2) ++ F) H w0 w
  notyet : ∀ x ∈ suf, x.ph ≠ .com → ¬ L listed x.id
  eff : ∀ x ∈ pre, isEf x = true → L listed x.id
  com : ∀ x ∈ pre, x.ph = .com → L listed x.id
  pgo : ∀ x ∈ pre, x.ph = .go → ¬ L listed x.id → PendGo P ops n w0 l ρ0 x H hist val
  pprep : ∀ x ∈ pre, x.ph = .prep → ¬ L listed x.id → PendPrep P ops n l ρ0 x hist val
  early : ∀ x ∈ pre, x.ph = .prep → L listed x.id → (∀ z ∈ pre, ¬ (z.id = x.id ∧ z.ph = .com)) →
    (∃ m ob b, lookH hist x.id = some (.ob m ob) ∧ (x.id, (b, ob)) ∈ X ∧ val x.id = m.val b) ∨ ((∀ m ob, lookH hist x.id ≠ some (.ob m ob)) ∧ val x.id = undef)
  xs : ∀ e ∈ X, L listed e.1 ∧ (∃ x ∈ pre, x.id = e.1 ∧ x.ph = .prep) ∧ (∀ z ∈ pre, ¬ (z.id = e.1 ∧ z.ph = .com)) ∧ ∃ m, lookH hist e.1 = some (.ob m e.2.2)
  xnd : (X.map (·.1)).Nodup
  hk : ∀ i h, lookH hist i = some h → ∃ x ∈ pre, x.id = i ∧ x.ph ≠ .com

theorem lookH_cons_same (i : Nat) (h : Hs) (r : List (Nat × Hs)) : lookH ((i, h) :: r) i = some h := by simp [lookH]
theorem lookH_cons_other {i j : Nat} (h : Hs) (r : List (Nat × Hs)) (hne : i ≠ j) : lookH ((i, h) :: r) j = lookH r j := by
  have : Nat.beq i j = false := by
    cases hb : Nat.beq i j with
    | false => rfl
    | true => exact absurd (Nat.eq_of_beq_eq_true hb) hne
  simp [lookH, this]

section
variable {P : Program} {ops : Array Oper} {bs : List Nat} {l : List It} (G : Good P ops bs l) {n : Nat} {w0 : World} {ρ0 : Env} {F : List Ent} {K : Env → HL → Prop} {E : List PanicEntry → HL → Prop}
include G

theorem Good.sameO {x y : It} (hx : x ∈ l) (hy : y ∈ l) (h : x.id = y.id) : x.o = y.o := by
  obtain ⟨o, ho, hc⟩ := G.inn x hx
  obtain ⟨o', ho', hc'⟩ := G.inn y hy
  rw [h, ho'] at ho; cases ho
  rw [hc] at hc'; exact Option.some.inj hc'

theorem Good.phok {x : It} (hx : x ∈ l) : phOk x = true := by
  obtain ⟨p1, p2, h⟩ := List.append_of_mem hx
  exact (G.item h).2.1

/-- Ahead of a step that goes, or prepares, there is no other step of its operation. -/
theorem Good.fresh {pre : List It} {y : It} {suf : List It} (h : l = pre ++ y :: suf) (hp : y.ph ≠ .com) : ∀ x ∈ pre, x.id ≠ y.id := by
  intro x hx he
  have hxl : x ∈ l := by rw [h]; simp [hx]
  have hyl : y ∈ l := by rw [h]; simp
  have ho := G.sameO hxl hyl he
  have h1 := G.phok hxl
  have h2 := G.phok hyl
  have hne := (G.item h).1 x hx
  by_cases hc : x.ph = .com
  · obtain ⟨p1, p2, rfl⟩ := List.append_of_mem hx
    obtain ⟨z, hz, hz1, hz2⟩ := (G.item (pre := p1) (y := x) (suf := p2 ++ y :: suf) (by rw [h]; simp)).2.2.1 hc
    have hzl : z ∈ l := by rw [h]; simp [hz]
    have hne' := (G.item h).1 z (by simp [hz])
    have : y.ph = .prep := by
      unfold phOk at h1 h2
      rw [hc, ho] at h1
      cases hy : y.ph with
      | com => exact absurd hy hp
      | prep => rfl
      | go => rw [hy] at h2; cases hi : y.o.i <;> rw [hi] at h1 h2 <;> simp at h1 h2
    exact hne' ⟨hz1.trans he, hz2.trans this.symm⟩
  · have : x.ph = y.ph := by
      unfold phOk at h1 h2
      rw [ho] at h1
      cases hx' : x.ph with
      | com => exact absurd hx' hc
      | prep =>
        cases hy : y.ph with
        | com => exact absurd hy hp
        | prep => rfl
        | go => rw [hx'] at h1; rw [hy] at h2; cases hi : y.o.i <;> rw [hi] at h1 h2 <;> simp at h1 h2
      | go =>
        cases hy : y.ph with
        | com => exact absurd hy hp
        | go => rfl
        | prep => rw [hx'] at h1; rw [hy] at h2; cases hi : y.o.i <;> rw [hi] at h1 h2 <;> simp at h1 h2
    exact hne ⟨he, this⟩

/-- The slots that an operation looks at hold, when it may be next, what they hold in the one order. -/
theorem Good.agree {listed : Array Bool} {val : Nat → Value} {a : Act} (hd : Down ops listed) (hs : Slots ops n ρ0 a listed val) {pre : List It} {x : It} {suf : List It} (h : l = pre ++ x :: suf)
    (hp : x.ph ≠ .com) {ρx : Env} (hr : Rel n ρ0 ρx pre val) {o : Oper} (ho : ops[x.id]? = some o) (hnl : ¬ L listed x.id)
    (hrdy : ∀ e ∈ o.after, Region.binds .any e = true → L listed e.on) : HoldsOn ops o ρx a := by
  intro u hu v hv
  have hx : x ∈ l := by rw [h]; simp
  have hrdy' : ∀ o', ops[x.id]? = some o' → ∀ e ∈ o'.after, Region.binds .any e = true → L listed e.on := fun o' ho' => by
    rw [ho] at ho'; cases ho'; exact hrdy
  rcases (hr u v hv).2 with ⟨z, hz, hz1, hz2, rfl⟩ | ⟨hno, hv0⟩
  · have hzl : z ∈ l := by rw [h]; simp [hz]
    obtain ⟨oz, hoz, hcz⟩ := G.inn z hzl
    have hzd : oz.dst = some u := by rw [← (compIn_dst hcz).1]; exact hz2
    have hne : z.id ≠ x.id := G.fresh h hp z hz
    rcases G.touch hoz ho hne hzd hu with hb | hb
    · exact hs.done z.id oz u hoz (G.behind hd _ rfl h hrdy' (G.lt z hzl) hb) hzd (hr u _ hv).1
    · obtain ⟨p1, p2, rfl⟩ := List.append_of_mem hz
      obtain ⟨z', hz', e1, e2⟩ := G.ahead _ (pre := p1) (y := z) (suf := p2 ++ x :: suf) rfl (by rw [h]; simp) (G.lt x hx) hb
      exact absurd e1 (G.fresh h hp z' (by simp [hz']))
  · refine hs.old u v hv0 fun j oj hoj hl hj => ?_
    have hne : j ≠ x.id := fun e => hnl (e ▸ hl)
    have hjl : j < ops.size := (Array.getElem?_eq_some_iff.1 hoj).1
    rcases G.touch hoj ho hne hj hu with hb | hb
    · obtain ⟨z, hz, e1, e2⟩ := G.ahead _ rfl h hjl hb
      have hzl : z ∈ l := by rw [h]; simp [hz]
      obtain ⟨oz, hoz, hcz⟩ := G.inn z hzl
      rw [e1, hoj] at hoz; cases hoz
      exact hno z hz e2 (by rw [(compIn_dst hcz).1]; exact hj)
    · obtain ⟨zj, hzj, e1, e2⟩ := G.all j hjl
      obtain ⟨p1, p2, hz⟩ := List.append_of_mem hzj
      exact hnl (G.behind hd _ rfl hz (fun o' ho' e he hbe => hd j o' hl (by rw [← e1]; exact ho') e he hbe) (G.lt x hx) (by rw [e1]; exact hb))

omit G in
theorem ps_more {x : It} {ρx : Env} {H : HL} {v : Value} (b : Nat) (o : Obj) (h : PS P ops n w0 x ρx H v) : PS P ops n w0 x ρx (.one b o :: H) v :=
  fun o' ho' a ha hh F w hok => h o' ho' a ha hh ((b, o) :: F) w (hok.perm (by simpa using List.perm_middle.symm))


omit G in
theorem putK.env {d : Option Nat} {v : Value} {ρ : Env} {J : Env → Prop} (h : putK n d v ρ J) : ∃ ρ', J ρ' ∧ ((d = none ∧ ρ' = ρ) ∨ ∃ k, d = some k ∧ k < n ∧ ρ' = (k, v) :: ρ) := by
  unfold putK at h
  split at h
  · exact ⟨ρ, h, .inl ⟨rfl, rfl⟩⟩
  · split at h
    · rename_i k _ hk
      exact ⟨_, h, .inr ⟨k, rfl, Nat.le_of_ble_eq_true hk, rfl⟩⟩
    · exact h.elim

omit G in
/-- What a step adds to what is known of the slots. -/
theorem rel_put {pre : List It} {y : It} {ρ ρ' : Env} {val val' : Nat → Value} {v : Value} (hr : Rel n ρ0 ρ pre val) (hval : ∀ x ∈ pre, x.ph ≠ .prep → val' x.id = val x.id) (hy : y.ph ≠ .prep) (hv : val' y.id = v)
    (hp : (y.o.d = none ∧ ρ' = ρ) ∨ ∃ k, y.o.d = some k ∧ k < n ∧ ρ' = (k, v) :: ρ) : Rel n ρ0 ρ' (pre ++ [y]) val' := by
  have old : ∀ u u', y.o.d ≠ some u → look ρ u = some u' → u < n ∧ ((∃ x ∈ pre ++ [y], x.ph ≠ .prep ∧ x.o.d = some u ∧ u' = val' x.id) ∨ ((∀ x ∈ pre ++ [y], x.ph ≠ .prep → x.o.d ≠ some u) ∧ look ρ0 u = some u')) := by
    intro u u' hne hu
    obtain ⟨h1, h2⟩ := hr u u' hu
    refine ⟨h1, ?_⟩
    rcases h2 with ⟨x, hx, e1, e2, e3⟩ | ⟨h2, h3⟩
    · exact .inl ⟨x, by simp [hx], e1, e2, by rw [hval x hx e1]; exact e3⟩
    · refine .inr ⟨fun x hx hph => ?_, h3⟩
      rcases List.mem_append.1 hx with hx | hx
      · exact h2 x hx hph
      · simp at hx; subst hx; exact hne
  intro u u' hu
  rcases hp with ⟨hd, rfl⟩ | ⟨k, hd, hk, rfl⟩
  · exact old u u' (by rw [hd]; simp) hu
  · by_cases hku : k = u
    · subst hku
      rw [look_cons_same] at hu
      cases hu
      exact ⟨hk, .inl ⟨y, by simp, hy, hd, hv.symm⟩⟩
    · rw [look_cons_other _ _ hku] at hu
      exact old u u' (by rw [hd]; simpa using hku) hu

omit G in
theorem rel_val {pre : List It} {ρ : Env} {val val' : Nat → Value} (hr : Rel n ρ0 ρ pre val) (hval : ∀ x ∈ pre, x.ph ≠ .prep → val' x.id = val x.id) : Rel n ρ0 ρ pre val' := by
  intro u u' hu
  obtain ⟨h1, h2⟩ := hr u u' hu
  refine ⟨h1, ?_⟩
  rcases h2 with ⟨x, hx, e1, e2, e3⟩ | h2
  · exact .inl ⟨x, hx, e1, e2, by rw [hval x hx e1]; exact e3⟩
  · exact .inr h2

omit G in
theorem rel_look {pre : List It} {ρ ρ' : Env} {val : Nat → Value} (hr : Rel n ρ0 ρ pre val) (h : ∀ u, look ρ' u = look ρ u) : Rel n ρ0 ρ' pre val := fun u v hu => hr u v (by rw [← h u]; exact hu)

omit G in
theorem holdsOn_look {o : Oper} {ρ ρ' : Env} {a : Act} (h : ∀ u, look ρ' u = look ρ u) (hh : HoldsOn ops o ρ a) : HoldsOn ops o ρ' a := fun u hu v hv => hh u hu v (by rw [← h u]; exact hv)

/-- What stands ahead of a step that has been made has been made. -/
theorem Good.prefix_sub {prex : List It} {x : It} {sufx pre suf : List It} (e1 : l = prex ++ x :: sufx) (e2 : l = pre ++ suf) (hx : x ∈ pre) : ∀ z ∈ prex, z ∈ pre := by
  intro z hz
  obtain ⟨p1, p2, hp⟩ := List.append_of_mem hx
  have h' : prex ++ x :: sufx = p1 ++ x :: (p2 ++ suf) := by rw [← e1, e2, hp]; simp
  have : prex = p1 := by
    rcases List.append_eq_append_iff.1 h' with ⟨t, ht1, ht2⟩ | ⟨t, ht1, ht2⟩
    · cases t with
      | nil => simpa using ht1.symm
      | cons z' t =>
        simp at ht2
        exact ((G.item (pre := p1) (y := x) (suf := p2 ++ suf) (by rw [e2, hp]; simp)).1 x (by rw [ht1, ← ht2.1]; simp) ⟨rfl, rfl⟩).elim
    · cases t with
      | nil => simpa using ht1
      | cons z' t =>
        simp at ht2
        exact ((G.item (pre := prex) (y := x) (suf := sufx) e1).1 x (by rw [ht1, ← ht2.1]; simp) ⟨rfl, rfl⟩).elim
  rw [hp, ← this]; simp [hz]

/-- The one order goes a step ahead: a step that the machine need not have made. -/
theorem Good.step_like {listed : Array Bool} {w : World} {pre suf : List It} {y : It} {val : Nat → Value} {ρ : Env} {H : HL} {hist : List (Nat × Hs)} {X : List (Nat × Ent)}
    (c : Cn P ops n w0 l ρ0 F K E listed w pre (y :: suf) val ρ H hist X) {a : Act} (hs : Slots ops n ρ0 a listed val) (hl : plike y = true) :
    ∃ val' ρ' hist', Cn P ops n w0 l ρ0 F K E listed w (pre ++ [y]) suf val' ρ' H hist' X ∧ Slots ops n ρ0 a listed val' := by
  have hyl : y ∈ l := by rw [c.split]; simp
  obtain ⟨o, ho, hco⟩ := G.inn y hyl
  have hcom : y.ph ≠ .com := by
    intro e; unfold plike at hl; rw [e] at hl; cases y.o.i <;> simp at hl
  have hfr := G.fresh c.split hcom
  have hnl : ¬ L listed y.id := c.notyet y (by simp) hcom
  have hsp : l = (pre ++ [y]) ++ suf := by rw [c.split]; simp
  have hsel : ∀ cs b, o.op ≠ .select cs b := fun cs b => Region.noSelect_spec G.nosel y.id o cs b ho
  obtain ⟨hd, hci⟩ := compIn_dst hco
  have hvc := c.vc
  -- what holds with another value of this step alone
  have slots' : ∀ v, Slots ops n ρ0 a listed (fun i => if i = y.id then v else val i) := fun v =>
    ⟨hs.size, hs.defers, fun i o' d ho' hli hdi hdn => by
      have : i ≠ y.id := fun e => hnl (e ▸ hli)
      simp only [if_neg this]; exact hs.done i o' d ho' hli hdi hdn, hs.old⟩
  have hvals : ∀ v, ∀ x ∈ pre, (fun i => if i = y.id then v else val i) x.id = val x.id := fun v x hx => by simp [hfr x hx]
  have mk : ∀ (v : Value) (ρ' : Env) (hist' : List (Nat × Hs)), dVC P n suf hist' K E ρ' H → Rel n ρ0 ρ' (pre ++ [y]) (fun i => if i = y.id then v else val i) →
      (∀ i, i ≠ y.id → lookH hist' i = lookH hist i) → (∀ i h, lookH hist' i = some h → ∃ x ∈ pre ++ [y], x.id = i ∧ x.ph ≠ .com) →
      (y.ph = .go → PendGo P ops n w0 l ρ0 y H hist' (fun i => if i = y.id then v else val i)) → (y.ph = .prep → PendPrep P ops n l ρ0 y hist' (fun i => if i = y.id then v else val i)) →
      ∃ val' ρ' hist', Cn P ops n w0 l ρ0 F K E listed w (pre ++ [y]) suf val' ρ' H hist' X ∧ Slots ops n ρ0 a listed val' := by
    intro v ρ' hist' h1 h2 h3 h4 h5 h6
    refine ⟨_, ρ', hist', ⟨hsp, h1, h2, c.ok, fun x hx => c.notyet x (by simp [hx]), ?_, ?_, ?_, ?_, ?_, ?_, c.xnd, h4⟩, slots' v⟩
    · intro x hx he
      rcases List.mem_append.1 hx with hx | hx
      · exact c.eff x hx he
      · simp at hx; subst hx
        unfold plike at hl; unfold isEf at he
        cases hi : x.o.i <;> rw [hi] at hl he <;> simp at hl he
        have hph := G.phok hyl
        unfold phOk at hph
        rw [hi] at hph
        cases hx' : x.ph <;> rw [hx'] at hl hph <;> simp at hl hph
    · intro x hx he
      rcases List.mem_append.1 hx with hx | hx
      · exact c.com x hx he
      · simp at hx; subst hx; exact absurd he hcom
    · intro x hx hg hxl
      rcases List.mem_append.1 hx with hx | hx
      · obtain ⟨prex, sufx, ρx, e1, e2, e3, e4⟩ := (c.pgo x hx hg hxl).ex
        have hne := hfr x hx
        have hsub : ∀ z ∈ prex, z ∈ pre := G.prefix_sub e1 c.split hx
        have hv : (if x.id = y.id then v else val x.id) = val x.id := if_neg hne
        refine ⟨prex, sufx, ρx, e1, rel_val e2 (fun z hz _ => hvals v z (hsub z hz)), by rw [hv]; exact e3, ?_⟩
        rw [hv, h3 x.id hne]
        exact e4
      · simp at hx; subst hx; exact h5 hg
    · intro x hx hg hxl
      rcases List.mem_append.1 hx with hx | hx
      · obtain ⟨prex, sufx, ρx, e1, e2, e3⟩ := (c.pprep x hx hg hxl).ex
        have hne := hfr x hx
        have hsub : ∀ z ∈ prex, z ∈ pre := G.prefix_sub e1 c.split hx
        refine ⟨prex, sufx, ρx, e1, rel_val e2 (fun z hz _ => hvals v z (hsub z hz)), ?_⟩
        rw [h3 x.id hne]
        exact e3
      · simp at hx; subst hx; exact h6 hg
    · intro x hx hg hxl hnc
      rcases List.mem_append.1 hx with hx | hx
      · have hne := hfr x hx
        have := c.early x hx hg hxl (fun z hz => hnc z (by simp [hz]))
        simp only [h3 x.id hne, if_neg hne]
        exact this
      · simp at hx; subst hx; exact absurd hxl hnl
    · intro e he
      obtain ⟨g1, ⟨x, hx, e1⟩, g3, m, hm⟩ := c.xs e he
      refine ⟨g1, ⟨x, by simp [hx], e1⟩, fun z hz => ?_, m, by rw [h3 e.1 (by rw [← e1.1]; exact hfr x hx)]; exact hm⟩
      rcases List.mem_append.1 hz with hz | hz
      · exact g3 z hz
      · simp at hz; subst hz; exact fun e => hcom e.2
  have hkeep : ∀ i h, lookH hist i = some h → ∃ x ∈ pre ++ [y], x.id = i ∧ x.ph ≠ .com := fun i h hi => by
    obtain ⟨x, hx, e⟩ := c.hk i h hi; exact ⟨x, by simp [hx], e⟩
  have hkeep' : ∀ hh i h, lookH ((y.id, hh) :: hist) i = some h → ∃ x ∈ pre ++ [y], x.id = i ∧ x.ph ≠ .com := fun hh i h hi => by
    by_cases he : y.id = i
    · exact ⟨y, by simp, he, hcom⟩
    · rw [lookH_cons_other _ _ he] at hi; exact hkeep i h hi
  have hnohist : ∀ h, lookH hist y.id ≠ some h := fun h hi => by
    obtain ⟨x, hx, e, _⟩ := c.hk y.id h hi; exact hfr x hx e
  have relv : ∀ v, Rel n ρ0 ρ pre (fun i => if i = y.id then v else val i) := fun v => rel_val c.rel (fun x hx _ => hvals v x hx)
  have keyLt : ∀ u v, look ρ u = some v → u < n := fun u v hu => (c.rel u v hu).1
  -- an operation that gives a value, or is passed by
  have sg : ∀ {ρ1 : Env}, (∀ u, look ρ1 u = look ρ u) → ∀ a' : Act, a'.tmps.size = n → HoldsOn ops o ρ a' → ∃ a'', Holds ρ1 a'' ∧ execOp a''.eval o = execOp a'.eval o := by
    intro ρ1 h1 a' ha' hh
    exact hold_over ha' (fun u v hu => keyLt u v (by rw [← h1 u]; exact hu)) (holdsOn_look h1 hh) hsel
  unfold plike at hl
  cases hph : y.ph with
  | com => exact absurd hph hcom
  | prep =>
    have hok := G.phok hyl
    unfold phOk at hok
    rw [hph] at hok
    cases hi : y.o.i <;> rw [hi] at hok <;> simp at hok
    rename_i e
    rw [hi] at hci
    have hca : compA P o.op = some e := by
      unfold compI at hci
      split at hci <;> try (cases hci; done)
      split at hci <;> try (cases hci; done)
      split at hci
      · cases hci; assumption
      · split at hci <;> cases hci
    simp only [dVC, hph, hi] at hvc
    obtain ⟨ρ1, h1, h2⟩ := gVC.out hvc
    rcases h2 with ⟨hw, hrun⟩ | ⟨hw, hpass⟩
    · obtain ⟨m, ob, k, hr⟩ := ae_sound hca hrun
      refine mk undef ρ1 ((y.id, .ob m ob) :: hist) k ?_ (fun i hne => lookH_cons_other _ _ (Ne.symm hne)) (hkeep' _) (fun h => by rw [hph] at h; cases h) (fun _ => ⟨pre, suf, ρ, c.split, relv undef, ?_⟩)
      · have h3 := rel_look (relv undef) h1
        intro u v hu
        obtain ⟨g1, g2⟩ := h3 u v hu
        refine ⟨g1, ?_⟩
        rcases g2 with ⟨x, hx, e1⟩ | ⟨g2, g3⟩
        · exact .inl ⟨x, by simp [hx], e1⟩
        · refine .inr ⟨fun x hx hp => ?_, g3⟩
          rcases List.mem_append.1 hx with hx | hx
          · exact g2 x hx hp
          · simp at hx; subst hx; exact absurd hph hp
      · intro o' ho' a' ha' hh
        rw [ho] at ho'; cases ho'
        obtain ⟨a'', ha'', he⟩ := sg h1 a' ha' hh
        exact .inl ⟨m, ob, lookH_cons_same _ _ _, wants_run hco hh hw, fun w => by rw [← he]; exact hr a'' ha'' w⟩
    · refine mk undef ρ1 hist hpass ?_ (fun i _ => rfl) hkeep (fun h => by rw [hph] at h; cases h) (fun _ => ⟨pre, suf, ρ, c.split, relv undef, ?_⟩)
      · have h3 := rel_look (relv undef) h1
        intro u v hu
        obtain ⟨g1, g2⟩ := h3 u v hu
        refine ⟨g1, ?_⟩
        rcases g2 with ⟨x, hx, e1⟩ | ⟨g2, g3⟩
        · exact .inl ⟨x, by simp [hx], e1⟩
        · refine .inr ⟨fun x hx hp => ?_, g3⟩
          rcases List.mem_append.1 hx with hx | hx
          · exact g2 x hx hp
          · simp at hx; subst hx; exact absurd hph hp
      · intro o' ho' a' ha' hh
        rw [ho] at ho'; cases ho'
        exact .inr ⟨fun m ob => hnohist _, wants_run hco hh hw⟩
  | go =>
    have hput : ∀ {v : Value} {ρ1 ρ2 : Env}, (∀ u, look ρ1 u = look ρ u) → ((y.o.d = none ∧ ρ2 = ρ1) ∨ ∃ k, y.o.d = some k ∧ k < n ∧ ρ2 = (k, v) :: ρ1) →
        Rel n ρ0 ρ2 (pre ++ [y]) (fun i => if i = y.id then v else val i) := fun {v} {ρ1} {ρ2} h1 h2 =>
      rel_put (rel_look c.rel h1) (fun x hx _ => hvals v x hx) (by rw [hph]; simp) (by simp) h2
    have pass : ∀ {ρ1 : Env}, (∀ u, look ρ1 u = look ρ u) → wants ρ y.o = some false → (putK n y.o.d undef ρ1 fun ρ'' => dVC P n suf hist K E ρ'' H) →
        ∃ val' ρ' hist', Cn P ops n w0 l ρ0 F K E listed w (pre ++ [y]) suf val' ρ' H hist' X ∧ Slots ops n ρ0 a listed val' := by
      intro ρ1 h1 hw hp
      obtain ⟨ρ2, k, h2⟩ := putK.env hp
      refine mk undef ρ2 hist k (hput h1 h2) (fun i _ => rfl) hkeep (fun _ => ⟨pre, suf, ρ, c.split, relv undef, ?_⟩) (fun h => by rw [hph] at h; cases h)
      have hps : ∀ H', PS P ops n w0 y ρ H' (if y.id = y.id then undef else val y.id) := fun H' o' ho' a' ha' hh F w hok => by
        rw [ho] at ho'; cases ho'
        exact .inr ⟨wants_run hco hh hw, by simp⟩
      exact ⟨hps H, .inl hps⟩
    rw [hph] at hl
    cases hi : y.o.i <;> rw [hi] at hl <;> simp at hl
    · rename_i e
      rw [hi] at hci
      have hcp : compP P o.op = some e := by
        unfold compI at hci
        split at hci
        · cases hci; assumption
        · split at hci <;> try (cases hci; done)
          split at hci <;> try (cases hci; done)
          split at hci <;> cases hci
      simp only [dVC, hph, hi] at hvc
      obtain ⟨ρ1, h1, h2⟩ := gVC.out hvc
      rcases h2 with ⟨hw, hrun⟩ | ⟨hw, hp⟩
      · obtain ⟨v, k, hr⟩ := pe_sound hcp hrun
        obtain ⟨ρ2, k, h2⟩ := putK.env k
        refine mk v ρ2 hist k (hput h1 h2) (fun i _ => rfl) hkeep (fun _ => ⟨pre, suf, ρ, c.split, relv v, ?_⟩) (fun h => by rw [hph] at h; cases h)
        have hps : ∀ H', PS P ops n w0 y ρ H' (if y.id = y.id then v else val y.id) := fun H' o' ho' a' ha' hh F w hok => by
          rw [ho] at ho'; cases ho'
          obtain ⟨a'', ha'', he⟩ := sg h1 a' ha' hh
          exact .inl ⟨wants_run hco hh hw, by rw [← he, if_pos rfl]; exact hr a'' ha'' w⟩
        exact ⟨hps H, .inl hps⟩
      · exact pass h1 hw hp
    · rename_i e
      rw [hi] at hci
      have hcr : compR P o.op = some e := by
        unfold compI at hci
        split at hci <;> try (cases hci; done)
        split at hci
        · cases hci; assumption
        · split at hci <;> try (cases hci; done)
          split at hci <;> cases hci
      simp only [dVC, hph, hi] at hvc
      obtain ⟨ρ1, h1, h2⟩ := gVC.out hvc
      rcases h2 with ⟨hw, hrun⟩ | ⟨hw, hp⟩
      · obtain ⟨v, k, hr⟩ := re_sound hcr hrun
        obtain ⟨ρ2, k, h2⟩ := putK.env k
        refine mk v ρ2 _ k (hput h1 h2) (fun i hne => lookH_cons_other _ _ (Ne.symm hne)) (hkeep' _) (fun _ => ⟨pre, suf, ρ, c.split, relv v, ?_⟩) (fun h => by rw [hph] at h; cases h)
        have hps : ∀ H', reVC P ρ1 H' e (fun v' => v' = v) → PS P ops n w0 y ρ H' (if y.id = y.id then v else val y.id) := fun H' hre o' ho' a' ha' hh F w hok => by
          rw [ho] at ho'; cases ho'
          obtain ⟨a'', ha'', he⟩ := sg h1 a' ha' hh
          obtain ⟨v', hv', hr'⟩ := re_sound hcr hre
          subst hv'
          exact .inl ⟨wants_run hco hh hw, by rw [← he, if_pos rfl]; exact hr' a'' ha'' _ _ w hok⟩
        refine ⟨fun o' ho' a' ha' hh F w hok => ?_, .inr ⟨by simp [isRd, hi], _, lookH_cons_same _ _ _, hps⟩⟩
        rw [ho] at ho'; cases ho'
        obtain ⟨a'', ha'', he⟩ := sg h1 a' ha' hh
        exact .inl ⟨wants_run hco hh hw, by rw [← he, if_pos rfl]; exact hr a'' ha'' _ _ w hok⟩
      · exact pass h1 hw hp

end
end Go.Sv
