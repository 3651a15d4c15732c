/- Operations that write memory or call. -/
import Derived.Test.YtccofnngpijihaaGreatVc3
set_option linter.all false
namespace Go.Sv

/-- A value that takes one cell. -/
def one1 : Value → Bool
  | .agg _ | .tuple _ => false
  | _ => true

/-- Some cells, written. -/
inductive StoreN (H : HL) (b off : Nat) (vs : List Value) (K : HL → Prop) : Prop
  | mk (A B : HL) (arr arr' : Array Value) (T : TypeId) (m : Nat × Nat) (hH : H = A ++ .one b (.cells arr T m) :: B) (hs : setL arr.toList off vs = some arr'.toList)
      (hone : vs.all one1 = true) (hfz : ∀ j, j < vs.length → ¬ (m.1 ≤ off + j ∧ off + j < m.2)) (k : K (A ++ .one b (.cells arr' T m) :: B))

/-- A piece put in another's place. -/
def repK : HL → Nat → Chunk → (HL → Prop) → Prop
  | _ :: H, 0, c, K => K (c :: H)
  | d :: H, i + 1, c, K => repK H i c fun H' => K (d :: H')
  | [], _, _, _ => False

theorem repK.out : ∀ {H : HL} {i : Nat} {c d : Chunk} {K : HL → Prop}, nth H i = some d → repK H i c K → ∃ A B, H = A ++ d :: B ∧ K (A ++ c :: B) := by
  intro H
  induction H with
  | nil => intro i c d K h; simp [nth] at h
  | cons x H ih =>
    intro i c d K h hk
    cases i with
    | zero => simp [nth] at h; subst h; exact ⟨[], H, rfl, hk⟩
    | succ i =>
      obtain ⟨A, B, h1, h2⟩ := ih (by simpa [nth] using h) hk
      exact ⟨x :: A, B, by rw [h1]; rfl, h2⟩

/-- A store into a block whose cells stand written out. -/
theorem StoreN.at {H : HL} {b off : Nat} {vs : List Value} {K : HL → Prop} (i : Nat) {arr : Array Value} {T : TypeId} {l : List Value} (h : nth H i = some (.one b (.cells arr T (0, 0))))
    (hs : setL arr.toList off vs = some l) (hone : vs.all one1 = true) (k : frc l fun l => repK H i (.one b (.cells l.toArray T (0, 0))) K) : StoreN H b off vs K := by
  rw [frc_eq] at k
  obtain ⟨A, B, h1, h2⟩ := repK.out h k
  exact ⟨A, B, arr, l.toArray, T, (0, 0), h1, by simpa using hs, hone, fun j _ => by simp, h2⟩

/-- A store of one value into a row. -/
theorem StoreN.row {H : HL} {b off : Nat} {v : Value} {K : HL → Prop} (i : Nat) {arr : Array Value} {T : TypeId} {m : Nat × Nat} (h : nth H i = some (.one b (.cells arr T m)))
    (hl : off < arr.size) (hm : ¬ (m.1 ≤ off ∧ off < m.2)) (hone : one1 v = true) (k : repK H i (.one b (.cells (arr.setIfInBounds off v) T m)) K) : StoreN H b off [v] K := by
  obtain ⟨A, B, h1, h2⟩ := repK.out h k
  refine ⟨A, B, arr, _, T, m, h1, ?_, by simp [hone], fun j hj => by simp at hj; subst hj; simpa using hm, h2⟩
  have key : ∀ (l : List Value) (n : Nat), n < l.length → setL l n [v] = some (l.set n v) := by
    intro l
    induction l with
    | nil => intro n hn; simp at hn
    | cons x l ih =>
      intro n hn
      cases n with
      | zero => simp [setL]
      | succ n => simp [setL, ih n (by simpa using hn)]
  rw [key _ _ (by simpa using hl)]
  simp

/-- A call. -/
inductive CallVC (P : Program) (f : FuncId) (args : List Value) (H : HL) (K : Value → HL → Prop) (E : List PanicEntry → HL → Prop) : Prop
  | mk (hc : ∀ w vs, (callFunc f vs).run P w = .ok (.enter f vs) w)
      (h : ∀ F w0 w, Ok F H w0 w → Calls P f args.toArray w fun e w' => (∃ v H', e = .returned v ∧ K v H' ∧ Ok F H' w0 w') ∨ (∃ c H', e = .panicked c ∧ E c H' ∧ Ok F H' w0 w'))

def callable (P : Program) (f : FuncId) : Bool :=
  match P.funcs[f]? with
  | some fn => fn.body.isSome && !(fn.name == "runtime.NumGoroutine")
  | none => false

theorem callable_run {P : Program} {f : FuncId} (h : callable P f = true) (w : World) (vs : Array Value) : (callFunc f vs).run P w = .ok (.enter f vs) w := by
  unfold callable at h
  split at h
  · rename_i fn hf
    simp only [Bool.and_eq_true, Bool.not_eq_true'] at h
    have hb : fn.body.isNone = false := by
      cases hb : fn.body with
      | none => simp [hb] at h
      | some c => rfl
    have hn : ¬ fn.name = "runtime.NumGoroutine" := by simpa using h.2
    have hb' : ¬ fn.body = none := by
      intro e; simp [e] at hb
    simp [callFunc, program, Sem.run, hf, hn, hb']
  · cases h

/-- What an operation of the model does, however. -/
inductive RawVC (P : Program) (s : Sem Next) (H : HL) (K : Value → HL → Prop) (E : List PanicEntry → HL → Prop) : Prop
  | mk (h : ∀ F w0 w, Ok F H w0 w →
      (∃ v H' w', (s.run P w = .ok (.value v) w' ∨ (s.run P w = .ok .skip w' ∧ v = undef)) ∧ K v H' ∧ Ok F H' w0 w') ∨
      (∃ v H' w', s.run P w = .halt (.panic v) w' ∧ E [{ v, recovered := false }] H' ∧ Ok F H' w0 w'))

inductive EE where
  | st (n : Nat) (x v : Operand)
  | call (f : FuncId) (args : List Operand)
  | callv (f : Operand) (args : List Operand)
  | bi (b : Builtin) (ats : Array TypeId) (ty : TypeId) (consts : Array Bool) (args : List Operand)
  | mup (t : TypeId) (m k x : Operand)
  | rng (t : TypeId) (x : Operand)
  | nxt (x : Operand) (isStr : Bool) (ty : TypeId)
  | cv (s d : TypeId) (x : Operand)
  | pan (x : Operand)

def onFunc (v : Value) (f : Nat → List Value → List Value → Prop) : Prop :=
  match v with
  | .func (.func g) us vs => f g us.toList vs.toList
  | _ => False

theorem onFunc.out {v : Value} {f : Nat → List Value → List Value → Prop} (h : onFunc v f) : ∃ g us vs, v = .func (.func g) us vs ∧ f g us.toList vs.toList := by
  unfold onFunc at h; split at h
  · exact ⟨_, _, _, rfl, h⟩
  · exact h.elim

def appL {α : Type} : List α → List α → (List α → Prop) → Prop
  | [], r, K => K r
  | x :: l, r, K => appL l r fun y => K (x :: y)

theorem appL_eq {α : Type} (l r : List α) : ∀ K : List α → Prop, appL l r K = K (l ++ r) := by
  induction l with
  | nil => intro K; rfl
  | cons x l ih => intro K; simp [appL, ih]

def eeVC (P : Program) (ρ : Env) (H : HL) (e : EE) (K : Value → HL → Prop) (E : List PanicEntry → HL → Prop) : Prop :=
  match e with
  | .st n x v => evK ρ x fun u => onPtr u fun b o => evK ρ v fun u => frc u.cells.toList fun vs => match Nat.beq vs.length n with
    | true => StoreN H b o vs fun H' => K undef H'
    | false => False
  | .call f args => evsK ρ args fun vs => CallVC P f vs H K E
  | .callv f args => evK ρ f fun u => onFunc u fun g first cap => evsK ρ args fun vs => appL first vs fun ws => appL ws cap fun ws => CallVC P g ws H K E
  | .bi b ats ty consts args => evsK ρ args fun vs => RawVC P (builtin b ats ty consts vs.toArray) H K E
  | .mup t m k x => evK ρ m fun u => evK ρ k fun v => evK ρ x fun z => RawVC P (do Instr.mapUpdate t u v z; pure .skip) H K E
  | .rng t x => evK ρ x fun u => RawVC P (do pure (.value (← Instr.range t u))) H K E
  | .nxt x isStr ty => evK ρ x fun u => RawVC P (do pure (.value (← Instr.next u isStr ty))) H K E
  | .cv s d x => evK ρ x fun u => RawVC P (do pure (.value (← convert s d u))) H K E
  | .pan x => evK ρ x fun u => RawVC P (do pure (.value (← Instr.panic u))) H K E

def compE (P : Program) (o : Oper) : Option EE :=
  match o.op with
  | .store t x v => optOf (szOf P t) fun n => lit n fun n => some (.st n x v)
  | .call { callee := .value (.func f), args, .. } => some (.call f args.toList)
  | .call { callee := .value f, args, .. } => some (.callv f args.toList)
  | .call { callee := .builtin b, args, argTypes } => some (.bi b argTypes o.type (args.map fun | .const _ => true | _ => false) args.toList)
  | .mapUpdate t m k x | .insert t m k x => some (.mup t m k x)
  | .range t x => some (.rng t x)
  | .next x isStr => some (.nxt x isStr o.type)
  | .convert s d x => some (.cv s d x)
  | .panic x => some (.pan x)
  | _ => none

/-- What an operation that may do anything comes to. -/
def Does (P : Program) (a : Act) (F : List Ent) (w0 : World) (o : Oper) (w : World) (K : Value → HL → Prop) (E : List PanicEntry → HL → Prop) : Prop :=
  ∀ (next : Act → World → Prop) (Q : Exit → Act → World → Prop), (∀ v H' w', K v H' → Ok F H' w0 w' → next (a.put o.dst v) w') →
    (∀ c H' w', E c H' → Ok F H' w0 w' → Q (.panic c) a w') → o.wp P a w next Q ∨ (o.asks P a w ∧ LetsOut Q)

theorem store_run {P : Program} {w : World} {p : Addr} {v u : Value} (h : one1 v = true) (hc : w.cell? p = some u) (hf : w.frozen? p = false) : (store p v).run P w = .ok () (w.setCell p v) := by
  cases v <;> simp_all [one1, store, Sem.run]

theorem storeCells_run {P : Program} {b : Nat} {T : TypeId} {m : Nat × Nat} : ∀ (vs : List Value) (w : World) (off i : Nat) (arr : Array Value) (r : List Value),
    w.heap[b]? = some (.cells arr T m) → setL arr.toList (off + i) vs = some r → vs.all one1 = true → (∀ j, j < vs.length → ¬ (m.1 ≤ off + i + j ∧ off + i + j < m.2)) →
    ∃ w', (storeCells ⟨b, off, none⟩ vs i).run P w = .ok () w' ∧ w'.heap[b]? = some (.cells r.toArray T m) ∧ (∀ k, k ≠ b → w'.heap[k]? = w.heap[k]?) ∧ Ext w w' := by
  intro vs
  induction vs with
  | nil =>
    intro w off i arr r hb hs _ _
    have : r = arr.toList := by
      have h1 := setL_eq _ _ _ _ hs
      apply List.ext_getElem?
      intro j
      rw [h1.2.2 j, if_neg (by simp)]
    subst this
    exact ⟨w, by simp [storeCells], by simpa using hb, fun _ _ => rfl, Ext.refl w⟩
  | cons v vs ih =>
    intro w off i arr r hb hs hone hfz
    simp only [List.all_cons, Bool.and_eq_true] at hone
    obtain ⟨h1, h2, h3⟩ := setL_eq _ _ _ _ hs
    simp only [List.length_cons, Array.length_toList] at h2
    have hlt : off + i < arr.size := by omega
    have hnf : w.frozen? ⟨b, off + i, none⟩ = false := by
      have := hfz 0 (by simp)
      simp only [World.frozen?, hb, Bool.and_eq_false_iff, decide_eq_false_iff_not]
      simp only [Nat.add_zero] at this
      omega
    have hc : w.cell? ⟨b, off + i, none⟩ = some arr[off + i] := by rw [cell_of_block hb]; simp [hlt]
    have hb' : (w.setCell ⟨b, off + i, none⟩ v).heap[b]? = some (.cells (arr.setIfInBounds (off + i) v) T m) := by
      simp [World.setCell, Array.getElem?_modify, hb]
    have hset : setL (arr.setIfInBounds (off + i) v).toList (off + (i + 1)) vs = some r := by
      have key : ∀ (l : List Value) (n : Nat) (r : List Value), setL l n (v :: vs) = some r → setL (l.set n v) (n + 1) vs = some r := by
        intro l
        induction l with
        | nil => intro n r h; cases n <;> simp [setL] at h
        | cons x l ih =>
          intro n r h
          cases n with
          | zero =>
            simp only [setL] at h
            simp only [List.set_cons_zero]
            cases vs <;> simpa [setL] using h
          | succ n =>
            simp only [setL] at h
            split at h
            · rename_i r' hr'
              cases h
              have := ih n r' hr'
              simp only [List.set_cons_succ]
              cases vs <;> simp [setL, this]
            · cases h
      have := key _ _ _ hs
      simpa [Nat.add_assoc] using this
    obtain ⟨w', g1, g2, g3, g4⟩ := ih (w.setCell ⟨b, off + i, none⟩ v) off (i + 1) _ r hb' hset hone.2 (fun j hj => by
      have := hfz (j + 1) (by simpa using hj)
      rw [show off + (i + 1) + j = off + i + (j + 1) from by omega]; exact this)
    refine ⟨w', ?_, g2, fun k hk => ?_, ⟨g4.os, g4.tape, g4.output⟩⟩
    · have hst : (store ⟨b, off + i, none⟩ v).run P w = .ok () (w.setCell ⟨b, off + i, none⟩ v) := by
        exact store_run hone.1 hc hnf
      simp only [storeCells, Addr.add_lit, Sem.run_bind, hst, Result.andThen, g1]
    · rw [g3 k hk, RowKit.Below.heap_setCell _ _ _ _ hk]

theorem raw_sound {P : Program} {a : Act} {F : List Ent} {H : HL} {w0 w : World} {o : Oper} {s : Sem Next} {K : Value → HL → Prop} {E : List PanicEntry → HL → Prop} (hs : execOp a.eval o = s)
    (hok : Ok F H w0 w) (h : RawVC P s H K E) : Does P a F w0 o w K E := by
  intro next Q hn hp
  obtain ⟨h⟩ := h
  rcases h F w0 w hok with ⟨v, H', w', hr, k, hok'⟩ | ⟨v, H', w', hr, k, hok'⟩
  · left
    unfold Oper.wp
    rw [hs]
    rcases hr with hr | ⟨hr, rfl⟩
    · rw [hr]; exact hn _ _ _ k hok'
    · rw [hr]; exact hn _ _ _ k hok'
  · left
    unfold Oper.wp
    rw [hs, hr]
    exact hp _ _ _ k hok'

theorem call_sound {P : Program} {a : Act} {F : List Ent} {H : HL} {w0 w : World} {o : Oper} {f : FuncId} {vs : List Value} {K : Value → HL → Prop} {E : List PanicEntry → HL → Prop}
    (hs : ∀ w, (execOp a.eval o).run P w = (callFunc f vs.toArray).run P w) (hok : Ok F H w0 w) (h : CallVC P f vs H K E) : Does P a F w0 o w K E := by
  intro next Q hn hp
  obtain ⟨hc, h⟩ := h
  left
  unfold Oper.wp
  rw [hs, hc]
  refine (h F w0 w hok).mono fun e w' he => ?_
  rcases he with ⟨v, H', rfl, k, hok'⟩ | ⟨c, H', rfl, k, hok'⟩
  · exact hn _ _ _ k hok'
  · exact hp _ _ _ k hok'

theorem does_store {P : Program} {dst : Option Tmp} {t ty : TypeId} {x v : Operand} {pos : String} {after : Array Edge} {g : Option (Nat × Bool)} {n : Nat} (hn : szOf P t = some n) {ρ : Env} {a a' : Act}
    {F : List Ent} {H : HL} {w0 w : World} {K : Value → HL → Prop} {E : List PanicEntry → HL → Prop} (he : execOp a'.eval ⟨dst, .store t x v, ty, pos, after, g⟩ = execOp a.eval ⟨dst, .store t x v, ty, pos, after, g⟩) (hH : Holds ρ a) (hok : Ok F H w0 w) (h : eeVC P ρ H (.st n x v) K E) :
    Does P a' F w0 ⟨dst, .store t x v, ty, pos, after, g⟩ w K E := by
  obtain ⟨u, hu, h⟩ := evK.out h
  obtain ⟨b, off, rfl, h'⟩ := onPtr.out h
  obtain ⟨z, hz, h'⟩ := evK.out h'
  rw [frc_eq] at h'
  split at h'
  · rename_i hlen
    have hlen := Nat.eq_of_beq_eq_true hlen
    obtain ⟨A, B, arr, arr', T, m, hHH, hs, hone, hfz, k⟩ := h'
    have hb := hok.get (b := b) (o := .cells arr T m) (by rw [hHH]; simp)
    obtain ⟨w', g1, g2, g3, g4⟩ := storeCells_run (P := P) z.cells.toList w off 0 arr arr'.toList hb hs hone (fun j hj => by simpa using hfz j hj)
    have hok' : Ok F (A ++ .one b (.cells arr' T m) :: B) w0 w' := hok.of_heap hHH g3 (by simpa using g2) ⟨g4.os.trans hok.ext.os, g4.tape.trans hok.ext.tape, g4.output.trans hok.ext.output⟩
    intro next Q hn' hp
    left
    have hsz : ¬ z.cells.size ≠ n := by simpa using hlen
    have hrun : (execOp a'.eval ⟨dst, .store t x v, ty, pos, after, g⟩).run P w = .ok .skip w' := by
      rw [he]
      simp only [execOp, hH.eval hu, hH.eval hz]
      simp [Instr.storeAt, Instr.sureAddr, storeVar, szOf_run hn, hsz, g1]
    unfold Oper.wp
    rw [hrun]
    exact hn' _ _ _ k hok'
  · exact h'.elim

theorem ee_sound {P : Program} {o : Oper} {e : EE} (hc : compE P o = some e) {ρ : Env} {a a' : Act} {F : List Ent} {H : HL} {w0 w : World} {K : Value → HL → Prop} {E : List PanicEntry → HL → Prop}
    (he : execOp a'.eval o = execOp a.eval o) (hH : Holds ρ a) (hok : Ok F H w0 w) (h : eeVC P ρ H e K E) : Does P a' F w0 o w K E := by
  obtain ⟨dst, op, ty, pos, after, g⟩ := o
  unfold compE at hc
  simp only [lit_eq] at hc
  split at hc
  · obtain ⟨n, hn, hc⟩ := optOf_some hc
    cases hc
    exact does_store hn he hH hok h
  · cases hc
    obtain ⟨vs, hv, h⟩ := evsK.out h
    exact call_sound (fun w => by rw [he]; simp [execOp, resolve, Act.eval, Deferred.ofValue, invoke]; rw [show Array.map a.eval _ = vs.toArray from map_eval hH hv]) hok h
  · cases hc
    obtain ⟨u, hu, h⟩ := evK.out h
    obtain ⟨g', us, cs, rfl, h'⟩ := onFunc.out h
    obtain ⟨vs, hv, h'⟩ := evsK.out h'
    rw [appL_eq, appL_eq] at h'
    exact call_sound (fun w => by
      rw [he]
      have e : (us.toList ++ (vs ++ cs.toList)).toArray = us ++ vs.toArray ++ cs := by
        apply Array.toList_inj.1; simp
      simp only [execOp, resolve, hH.eval hu, map_eval hH hv]
      rw [List.append_assoc, e]
      simp [Deferred.ofValue, invoke]) hok h'
  · cases hc
    obtain ⟨vs, hv, h⟩ := evsK.out h
    exact raw_sound (by
      rw [he]
      simp only [execOp, resolve, map_eval hH hv]
      rfl) hok h
  · cases hc
    obtain ⟨u, hu, h⟩ := evK.out h
    obtain ⟨v, hv, h⟩ := evK.out h
    obtain ⟨z, hz, h⟩ := evK.out h
    exact raw_sound (by rw [he]; simp only [execOp, hH.eval hu, hH.eval hv, hH.eval hz]) hok h
  · cases hc
    obtain ⟨u, hu, h⟩ := evK.out h
    obtain ⟨v, hv, h⟩ := evK.out h
    obtain ⟨z, hz, h⟩ := evK.out h
    exact raw_sound (by rw [he]; simp only [execOp, hH.eval hu, hH.eval hv, hH.eval hz]) hok h
  · cases hc
    obtain ⟨u, hu, h⟩ := evK.out h
    exact raw_sound (by rw [he]; simp only [execOp, hH.eval hu]) hok h
  · cases hc
    obtain ⟨u, hu, h⟩ := evK.out h
    exact raw_sound (by rw [he]; simp only [execOp, hH.eval hu]) hok h
  · cases hc
    obtain ⟨u, hu, h⟩ := evK.out h
    exact raw_sound (by rw [he]; simp only [execOp, hH.eval hu]) hok h
  · cases hc
    obtain ⟨u, hu, h⟩ := evK.out h
    exact raw_sound (by rw [he]; simp only [execOp, hH.eval hu]) hok h
  · cases hc

end Go.Sv
