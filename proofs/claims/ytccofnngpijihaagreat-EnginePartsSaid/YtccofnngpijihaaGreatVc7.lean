/- Contracts of functions, by their code. -/
import Derived.Test.YtccofnngpijihaaGreatVc6f
set_option linter.all false
namespace Go.Sv

/-- How code ends: with these pieces, and what is left over. -/
inductive Fin (post : Out → HL → Prop) (o : Out) (H : HL) : Prop
  | mk (A R : HL) (t : Take A H R) (h : post o A)

theorem Ok.fin {F : List Ent} {H : HL} {w0 w : World} {post : Out → HL → Prop} {o : Out} (h : Ok F H w0 w) : Fin post o H → ∃ A, post o A ∧ Ok F A w0 w
  | ⟨A, _, t, hp⟩ => ⟨A, hp, (h.take t).drop⟩

/-- A contract of a function that gives values alone. -/
def Rets (q : Value → HL → Prop) (o : Out) (H : HL) : Prop :=
  match o with
  | .ret v => q v H
  | .panic _ => False

theorem CallVC.use {P : Program} {f : FuncId} {args : List Value} {pre H R : HL} {post : Out → HL → Prop} {K : Value → HL → Prop} {E : List PanicEntry → HL → Prop} (hs : Spec P f args pre post)
    (hc : callable P f = true) (t : Take pre H R) (k : ∀ v A, post (.ret v) A → appL A R (K v)) (e : ∀ c A, post (.panic c) A → appL A R (E c)) : CallVC P f args H K E := by
  refine ⟨fun w vs => callable_run hc w vs, fun F w0 w hok => (hs _ w0 w (hok.take t)).mono fun en w' he => ?_⟩
  have back : ∀ A : HL, Ok (flat R ++ F) A w0 w' → Ok F (A ++ R) w0 w' := fun A h => h.perm (by simp)
  obtain ⟨o, A, rfl, hp, hok'⟩ := he
  cases o with
  | ret v =>
    have := k v A hp
    rw [appL_eq] at this
    exact .inl ⟨v, _, rfl, this, back A hok'⟩
  | panic c =>
    have := e c A hp
    rw [appL_eq] at this
    exact .inr ⟨c, _, rfl, this, back A hok'⟩

theorem CallVC.rets {P : Program} {f : FuncId} {args : List Value} {pre H R : HL} {q : Value → HL → Prop} {K : Value → HL → Prop} {E : List PanicEntry → HL → Prop} (hs : Spec P f args pre (Rets q))
    (hc : callable P f = true) (t : Take pre H R) (k : ∀ v A, q v A → appL A R (K v)) : CallVC P f args H K E :=
  CallVC.use hs hc t k (fun _ _ h => h.elim)

theorem appLI {A R : HL} {K : HL → Prop} (h : appL A R K) : appL A R K := h

/-- A contract of a function that gives one value and keeps the pieces. -/
def Gives (v : Value) (A : HL) : Out → HL → Prop := Rets fun u B => u = v ∧ B = A

theorem CallVC.gives {P : Program} {f : FuncId} {args : List Value} {pre H R A : HL} {v : Value} {K : Value → HL → Prop} {E : List PanicEntry → HL → Prop} (hs : Spec P f args pre (Gives v A))
    (hc : callable P f = true) (t : Take pre H R) (k : appL A R (K v)) : CallVC P f args H K E :=
  CallVC.rets hs hc t (fun _ _ ⟨h1, h2⟩ => by subst h1; subst h2; exact k)

/-! A function's results. -/
inductive RV where
  | tmp (t : Nat)
  | c1 (t : Nat)
  | cn (t n : Nat)

def compRV (P : Program) : List ResultVar → Option (List RV)
  | [] => some []
  | .tmp t :: r => optOf (compRV P r) fun l => some (.tmp t :: l)
  | .cell a t :: r => optOf (aggOf P t) fun ag => optOf (szOf P t) fun n => optOf (compRV P r) fun l => match ag with
    | true => some (.cn a n :: l)
    | false => some (.c1 a :: l)

def rvK (ρ : Env) (H : HL) : List RV → (List Value → Prop) → Prop
  | [], K => K []
  | .tmp t :: r, K => evK ρ (.tmp t) fun v => rvK ρ H r fun vs => K (v :: vs)
  | .c1 t :: r, K => evK ρ (.tmp t) fun u => onPtr u fun b o => Load1 H b o fun v => rvK ρ H r fun vs => K (v :: vs)
  | .cn t n :: r, K => evK ρ (.tmp t) fun u => onPtr u fun b o => LoadN H b o n fun v => rvK ρ H r fun vs => K (v :: vs)

def resS (tmps : Array Value) : ResultVar → Sem Value
  | .tmp t => pure (tmps.getD t undef)
  | .cell a t => do loadVar t (← asAddr (tmps.getD a undef))

theorem rv_sound {P : Program} : ∀ (rs : List ResultVar) (l : List RV), compRV P rs = some l → ∀ {ρ : Env} {a : Act} {F : List Ent} {H : HL} {w0 w : World} {K : List Value → Prop}, Holds ρ a → Ok F H w0 w → rvK ρ H l K →
    ∃ vs, K vs ∧ vs.length = rs.length ∧ (rs.mapM (resS a.tmps)).run P w = .ok vs w := by
  intro rs
  induction rs with
  | nil => intro l hc ρ a F H w0 w K hH hok h; simp [compRV] at hc; subst hc; exact ⟨[], h, rfl, by simp⟩
  | cons r rs ih =>
    intro l hc ρ a F H w0 w K hH hok h
    cases r with
    | tmp t =>
      simp only [compRV] at hc
      obtain ⟨l', hl', hc⟩ := optOf_some hc
      cases hc
      obtain ⟨v, hv, h⟩ := evK.out h
      obtain ⟨vs, k, hlen, hr⟩ := ih l' hl' hH hok h
      have e := hH.eval hv
      simp only [Act.eval] at e
      have e' : (resS a.tmps (.tmp t)).run P w = .ok v w := by rw [← e]; simp [resS]
      exact ⟨v :: vs, k, by simp [hlen], by simp only [List.mapM_cons, Sem.run_bind, e', hr, Result.andThen, Sem.run_pure]⟩
    | cell b t =>
      simp only [compRV] at hc
      obtain ⟨ag, hag, hc⟩ := optOf_some hc
      obtain ⟨n, hn, hc⟩ := optOf_some hc
      obtain ⟨l', hl', hc⟩ := optOf_some hc
      cases ag with
      | true =>
        cases hc
        obtain ⟨u, hu, h⟩ := evK.out h
        obtain ⟨bb, off, rfl, h'⟩ := onPtr.out h
        obtain ⟨arr, T, m, vs, hm, hv, hl, k⟩ := h'
        obtain ⟨vs', k', hlen, hr'⟩ := ih l' hl' hH hok k
        have hb := hok.get hm
        have e := hH.eval hu
        simp only [Act.eval] at e
        have hr := loadCellsFrom_run (P := P) (off := off) hb vs 0 #[] (fun j hj => by
          rw [hv, List.getElem?_take, if_pos (by omega)]
          simp)
        simp only [hl] at hr
        have e' : (resS a.tmps (.cell b t)).run P w = .ok (.agg vs.toArray) w := by
          simp only [resS, e]
          simp [asAddr, loadVar, aggOf_run hag, szOf_run hn, loadCells, hr]
        exact ⟨_, k', by simp [hlen], by simp only [List.mapM_cons, Sem.run_bind, e', hr', Result.andThen, Sem.run_pure]⟩
      | false =>
        cases hc
        obtain ⟨u, hu, h⟩ := evK.out h
        obtain ⟨bb, off, rfl, h'⟩ := onPtr.out h
        obtain ⟨arr, T, m, v, hm, hv, k⟩ := h'
        obtain ⟨vs', k', hlen, hr'⟩ := ih l' hl' hH hok k
        have hb := hok.get hm
        have e := hH.eval hu
        simp only [Act.eval] at e
        have e' : (resS a.tmps (.cell b t)).run P w = .ok v w := by
          simp only [resS, e]
          have hcell : w.cell? ⟨bb, off, none⟩ = some v := by rw [cell_of_block hb]; exact hv
          simp [asAddr, loadVar, aggOf_run hag, load, Sem.run, hcell]
        exact ⟨_, k', by simp [hlen], by simp only [List.mapM_cons, Sem.run_bind, e', hr', Result.andThen, Sem.run_pure]⟩

def retV (post : Out → HL → Prop) (H : HL) (vs : List Value) : Prop :=
  match vs with
  | [v] => Fin post (.ret v) H
  | vs => Fin post (.ret (.tuple vs.toArray)) H

/-- What a function's body must come to. -/
def bodyQ (rs : List RV) (post : Out → HL → Prop) (e : Exit) (ρ : Env) (H : HL) : Prop :=
  match e with
  | .normal => rvK ρ H rs fun vs => retV post H vs
  | .ret => rvK ρ H rs fun vs => retV post H vs
  | .panic c => Fin post (.panic c) H
  | _ => False

def envOf : Nat → List Value → Env
  | _, [] => []
  | i, v :: r => (i, v) :: envOf (i + 1) r

theorem envOf_look : ∀ (vs : List Value) (k i : Nat) (v : Value), look (envOf k vs) i = some v → k ≤ i ∧ vs[i - k]? = some v := by
  intro vs
  induction vs with
  | nil => intro k i v h; simp [envOf, look] at h
  | cons u vs ih =>
    intro k i v h
    simp only [envOf] at h
    by_cases hk : k = i
    · subst hk
      rw [look_cons_same] at h
      cases h
      simp
    · rw [look_cons_other _ _ hk] at h
      obtain ⟨h1, h2⟩ := ih (k + 1) i v h
      refine ⟨by omega, ?_⟩
      rw [show i - k = (i - (k + 1)) + 1 from by omega]
      simpa using h2

noncomputable def codeOf (P : Program) (f : FuncId) : Cd :=
  (optOf (P.funcs[f]?) fun fn => optOf fn.body fun c => comp schedD P c).getD .skip

noncomputable def codeFn (P : Program) (fn : Func) : Cd := (optOf fn.body fun c => comp schedD P c).getD .skip
noncomputable def resFn (P : Program) (fn : Func) : List RV := (compRV P fn.results.toList).getD []

/-- Is a function's code such that this way serves? (Asked of the kernel.) -/
def okFn (P : Program) (fn : Func) : Bool :=
  P.follows .mixedOrders && (optOf fn.body fun c => comp schedD P c).isSome && (match fn.body with | some c => ckd dOk P c | none => false) && (compRV P fn.results.toList).isSome

theorem spec_of {P : Program} {f : FuncId} {fn : Func} (hf : P.funcs[f]? = some fn) (hk : okFn P fn = true) {args : List Value} (ha : args.length ≤ fn.ntmps) {pre : HL} {post : Out → HL → Prop}
    (h : VC dregVC P fn.ntmps (codeFn P fn) (bodyQ (resFn P fn) post) (envOf 0 args) pre) : Spec P f args pre post := by
  intro F w0 w hok
  unfold okFn at hk
  simp only [Bool.and_eq_true] at hk
  obtain ⟨⟨⟨hm, h1⟩, h2⟩, h3⟩ := hk
  cases hb : fn.body with
  | none => rw [hb] at h2; cases h2
  | some c =>
    rw [hb] at h1 h2
    obtain ⟨cd, hcd⟩ := Option.isSome_iff_exists.1 h1
    have hcd' : comp schedD P c = some cd := hcd
    obtain ⟨rs, hrs⟩ := Option.isSome_iff_exists.1 h3
    have hcode : codeFn P fn = cd := by simp [codeFn, hb, hcd]
    have hres : resFn P fn = rs := by simp [resFn, hrs]
    rw [hcode, hres] at h
    refine calls_of_wp hf hb (wp_mono (comp_sound (C := dOk) (V := dregVC) (fun id ops l F w0 Q ρ H a w => dreg_sound hm id ops l F w0 Q ρ H a w) c cd hcd' h2 F w0 _ _ pre _ w ?_ ?_ rfl hok h) ?_)
    · intro i v hv
      obtain ⟨_, hi⟩ := envOf_look _ _ _ _ hv
      simp only [Nat.sub_zero] at hi
      have hlt : i < args.length := (List.getElem?_eq_some_iff.1 hi).1
      show (args.toArray ++ Array.replicate (fn.ntmps - args.toArray.size) undef)[i]? = some v
      rw [Array.getElem?_append_left (by simpa using hlt)]
      simpa using hi
    · simp; omega
    · have fin : ∀ (a : Act) (w : World), a.defers = [] → (∃ ρ H, (rvK ρ H rs fun vs => retV post H vs) ∧ Holds ρ a ∧ Ok F H w0 w) → a.defers = [] ∧ ∃ v, (results fn a.tmps).run P w = .ok v w ∧
          (fun e w' => ∃ o H', e = o.ending ∧ post o H' ∧ Ok F H' w0 w') (.returned v) w := by
        rintro a w hd ⟨ρ, H, hq, hH, hok⟩
        obtain ⟨vs, k, hlen, hr⟩ := rv_sound _ _ hrs hH hok hq
        have hrun : (fn.results.mapM (resS a.tmps)).run P w = .ok vs.toArray w := by
          rw [Array.mapM_eq_mapM_toList]
          simp only [Sem.run_map]
          rw [hr]; rfl
        have hres : (results fn a.tmps).run P w = .ok (if h : vs.toArray.size = 1 then vs.toArray[0] else .tuple vs.toArray) w := by
          have hu : results fn a.tmps = (do let vs ← fn.results.mapM (resS a.tmps); pure (if h : vs.size = 1 then vs[0] else .tuple vs)) := by
            unfold results
            congr 1
          rw [hu]
          simp only [Sem.run_bind]
          rw [hrun]; rfl
        have key : Fin post (.ret (if h : vs.toArray.size = 1 then vs.toArray[0] else .tuple vs.toArray)) H := by
          unfold retV at k
          split at k
          · exact k
          · rename_i hne
            rw [dif_neg]
            · exact k
            · intro hs
              rw [List.size_toArray] at hs
              obtain ⟨v, rfl⟩ := List.length_eq_one_iff.1 hs
              exact hne v rfl
        obtain ⟨A, hp, hok'⟩ := hok.fin key
        exact ⟨hd, _, hres, ⟨_, A, rfl, hp, hok'⟩⟩
      intro e a w' hq
      cases e with
      | normal => obtain ⟨hd, _, ρ, H, hq⟩ := hq; exact fin a w' hd ⟨ρ, H, hq⟩
      | ret => obtain ⟨hd, _, ρ, H, hq⟩ := hq; exact fin a w' hd ⟨ρ, H, hq⟩
      | panic cc =>
        obtain ⟨hd, H, hq, hok'⟩ := hq
        obtain ⟨A, hp, hok''⟩ := hok'.fin hq
        exact ⟨hd, ⟨.panic cc, A, rfl, hp, hok''⟩⟩
      | outgrown => exact hq.elim
      | exit id => obtain ⟨_, _, ρ, H, hq, _⟩ := hq; exact hq.elim
      | goto id => obtain ⟨_, _, ρ, H, hq, _⟩ := hq; exact hq.elim

end Go.Sv
