/- Code: what must hold so that it ends well; sound over the model's machine. -/
import Derived.Test.YtccofnngpijihaaGreatVc4
import Derived.Deep.LoopGhost
set_option linter.all false
namespace Go.Sv

inductive Ins where
  | p (e : PE)
  | r (e : RE)
  | a (e : AE)
  | e (e : EE)

structure In where
  d : Option Nat
  g : Option (Nat × Bool)
  i : Ins

inductive Ph where
  | go | prep | com
  deriving DecidableEq

/-- A step of an order that stands for all orders of a region. -/
structure It where
  id : Nat
  ph : Ph
  o : In
  chk : List Nat

inductive Cd where
  | skip
  | ret
  | exit (id : Nat)
  | reg (l : List In)
  | dreg (l : List It)
  | seq (a b : Cd)
  | join (a b : Cd)
  | cond (c : Operand) (a b : Cd)
  | block (id : Nat) (b : Cd)
  | loop (b : Cd)

def putK (n : Nat) (d : Option Nat) (v : Value) (ρ : Env) (K : Env → Prop) : Prop :=
  match d with
  | none => K ρ
  | some d => match Nat.ble (d + 1) n with
    | true => K ((d, v) :: ρ)
    | false => False

theorem putK.out {n : Nat} {d : Option Nat} {v : Value} {ρ : Env} {K : Env → Prop} (h : putK n d v ρ K) {a : Act} (hH : Holds ρ a) (hs : a.tmps.size = n) :
    ∃ ρ', K ρ' ∧ Holds ρ' (a.put d v) ∧ (a.put d v).tmps.size = n := by
  unfold putK at h
  split at h
  · exact ⟨ρ, h, hH, hs⟩
  · split at h
    · rename_i d hd
      have hd := Nat.le_of_ble_eq_true hd
      exact ⟨_, h, hH.put (by omega) v, by simp [Act.put, hs]⟩
    · exact h.elim

def insVC (P : Program) (ρ : Env) (H : HL) (i : Ins) (K : Value → HL → Prop) (E : List PanicEntry → HL → Prop) : Prop :=
  match i with
  | .p e => peVC ρ e fun v => K v H
  | .r e => reVC P ρ H e fun v => K v H
  | .a e => aeVC ρ e fun m o => ∀ b, mkK m b fun v => K v (.one b o :: H)
  | .e e => eeVC P ρ H e K E

/-- A guard's Bool; behind a guard that was passed by: nothing. -/
def onGuard (v : Value) (f : Bool → Prop) (k : Prop) : Prop :=
  match v with
  | .bool t => f t
  | .tuple _ => k
  | _ => False

def inVC (P : Program) (n : Nat) (o : In) (ρ : Env) (H : HL) (K : Env → HL → Prop) (E : List PanicEntry → HL → Prop) : Prop :=
  match o.g with
  | none => insVC P ρ H o.i (fun v H' => putK n o.d v ρ fun ρ' => K ρ' H') E
  | some (s, want) => evK ρ (.tmp s) fun v => onGuard v
    (fun t => match want with
      | true => BV t (insVC P ((s, .bool true) :: ρ) H o.i (fun v H' => putK n o.d v ((s, .bool true) :: ρ) fun ρ' => K ρ' H') E) (putK n o.d undef ((s, .bool false) :: ρ) fun ρ' => K ρ' H)
      | false => BV t (putK n o.d undef ((s, .bool true) :: ρ) fun ρ' => K ρ' H) (insVC P ((s, .bool false) :: ρ) H o.i (fun v H' => putK n o.d v ((s, .bool false) :: ρ) fun ρ' => K ρ' H') E))
    (putK n o.d undef ρ fun ρ' => K ρ' H)

def opsVC (P : Program) (n : Nat) : List In → (Env → HL → Prop) → (List PanicEntry → HL → Prop) → Env → HL → Prop
  | [], K, _, ρ, H => K ρ H
  | o :: l, K, E, ρ, H => inVC P n o ρ H (fun ρ' H' => opsVC P n l K E ρ' H') E

def compI (P : Program) (o : Oper) : Option Ins :=
  match compP P o.op with
  | some e => some (.p e)
  | none => match compR P o.op with
    | some e => some (.r e)
    | none => match compA P o.op with
      | some e => some (.a e)
      | none => match compE P o with
        | some e => some (.e e)
        | none => none

def compIn (P : Program) (ops : Array Oper) (o : Oper) : Option In :=
  optOf (compI P o) fun i => match o.guard with
    | none => some ⟨o.dst, none, i⟩
    | some (j, b) => optOf ops[j]? fun oj => optOf oj.dst fun d => some ⟨o.dst, some (d, b), i⟩

def compL (P : Program) (ops : Array Oper) : List Oper → Option (List In)
  | [] => some []
  | o :: l => optOf (compIn P ops o) fun i => optOf (compL P ops l) fun r => some (i :: r)

theorem Act.put_defers' (a : Act) (d : Option Tmp) (v : Value) : (a.put d v).defers = a.defers := by cases d <;> rfl

theorem ins_sound {P : Program} {o : Oper} {i : Ins} (hc : compI P o = some i) {ρ : Env} {a : Act} {F : List Ent} {H : HL} {w0 w : World} {K : Value → HL → Prop} {E : List PanicEntry → HL → Prop}
    (hH : Holds ρ a) (hok : Ok F H w0 w) (h : insVC P ρ H i K E) : Does P a F w0 o w K E := by
  unfold compI at hc
  split at hc
  · rename_i e he
    cases hc
    obtain ⟨v, k, hr⟩ := pe_sound he h
    intro next Q hn hp
    left
    unfold Oper.wp
    rw [hr a hH]
    exact hn _ _ _ k hok
  · split at hc
    · rename_i e he
      cases hc
      obtain ⟨v, k, hr⟩ := re_sound he h
      intro next Q hn hp
      left
      unfold Oper.wp
      rw [hr a hH _ _ _ hok]
      exact hn _ _ _ k hok
    · split at hc
      · rename_i e he
        cases hc
        obtain ⟨mk, obj, k, hr⟩ := ae_sound (K := fun m o => ∀ b, mkK m b fun v => K v (.one b o :: H)) he h
        intro next Q hn hp
        left
        unfold Oper.wp
        rw [hr a hH]
        have k' := k w.heap.size
        rw [mkK_eq] at k'
        exact hn _ _ _ k' (hok.alloc obj)
      · split at hc
        · rename_i e he
          cases hc
          exact ee_sound he rfl hH hok h
        · cases hc

theorem Holds.again {ρ : Env} {a : Act} (h : Holds ρ a) {s : Nat} {v u : Value} (hs : look ρ s = some v) (e : v = u) : Holds ((s, u) :: ρ) a := by
  subst e
  intro i x hx
  by_cases hi : s = i
  · subst hi
    rw [look_cons_same] at hx
    cases hx
    exact h _ _ hs
  · rw [look_cons_other _ _ hi] at hx
    exact h i x hx

theorem onGuard.out {v : Value} {f : Bool → Prop} {k : Prop} (h : onGuard v f k) : (∃ t, v = .bool t ∧ f t) ∨ (∃ vs, v = .tuple vs ∧ k) := by
  unfold onGuard at h
  split at h
  · exact .inl ⟨_, rfl, h⟩
  · exact .inr ⟨_, rfl, h⟩
  · exact h.elim

theorem in_sound {P : Program} {ops : Array Oper} {o : Oper} {i : In} (hc : compIn P ops o = some i) {n : Nat} {ρ : Env} {a : Act} {F : List Ent} {H : HL} {w0 w : World} {K : Env → HL → Prop}
    {E : List PanicEntry → HL → Prop} (hH : Holds ρ a) (hs : a.tmps.size = n) (hok : Ok F H w0 w) (h : inVC P n i ρ H K E) {next : Act → World → Prop} {Q : Exit → Act → World → Prop}
    (hn : ∀ ρ' H' a' w', K ρ' H' → Holds ρ' a' → a'.tmps.size = n → a'.defers = a.defers → Ok F H' w0 w' → next a' w')
    (hp : ∀ c H' w', E c H' → Ok F H' w0 w' → Q (.panic c) a w') :
    if Region.wanted o (yielded ops a.tmps) then o.wp P a w next Q ∨ (o.asks P a w ∧ LetsOut Q) else next (a.put o.dst undef) w := by
  unfold compIn at hc
  obtain ⟨j, hj, hc⟩ := optOf_some hc
  have run : ∀ ρ', Holds ρ' a → insVC P ρ' H j (fun v H' => putK n o.dst v ρ' fun ρ'' => K ρ'' H') E → o.wp P a w next Q ∨ (o.asks P a w ∧ LetsOut Q) := by
    intro ρ' hH' h'
    refine ins_sound hj hH' hok h' next Q (fun v H' w' k hok' => ?_) hp
    obtain ⟨ρ'', k', hH'', hs''⟩ := k.out hH' hs
    exact hn _ _ _ _ k' hH'' hs'' (Act.put_defers' _ _ _) hok'
  have pass : ∀ ρ', Holds ρ' a → (putK n o.dst undef ρ' fun ρ'' => K ρ'' H) → next (a.put o.dst undef) w := by
    intro ρ' hH' h'
    obtain ⟨ρ'', k', hH'', hs''⟩ := h'.out hH' hs
    exact hn _ _ _ _ k' hH'' hs'' (Act.put_defers' _ _ _) hok
  split at hc
  · rename_i hg
    cases hc
    rw [if_pos (by simp [Region.wanted, hg])]
    exact run ρ hH h
  · rename_i k b hg
    obtain ⟨oj, hoj, hc⟩ := optOf_some hc
    obtain ⟨d, hd, hc⟩ := optOf_some hc
    cases hc
    obtain ⟨v, hv, h⟩ := evK.out h
    have hav : a.tmps[d]? = some v := hH d v hv
    rcases onGuard.out h with ⟨t, rfl, h'⟩ | ⟨vs, rfl, h'⟩
    · have hy : yielded ops a.tmps k = some t := by simp only [yielded, hoj, hd, Option.bind_some, hav]
      have hw : Region.wanted o (yielded ops a.tmps) = (t == b) := by
        simp only [Region.wanted, hg, hy]; cases t <;> cases b <;> rfl
      rw [hw]
      cases b with
      | true =>
        cases t with
        | true => exact run _ (hH.again hv rfl) (h'.ht rfl)
        | false => exact pass _ (hH.again hv rfl) (h'.hf rfl)
      | false =>
        cases t with
        | true => exact pass _ (hH.again hv rfl) (h'.ht rfl)
        | false => exact run _ (hH.again hv rfl) (h'.hf rfl)
    · have hy : yielded ops a.tmps k = none := by simp only [yielded, hoj, hd, Option.bind_some, hav]
      have hw : Region.wanted o (yielded ops a.tmps) = false := by simp [Region.wanted, hg, hy]
      rw [hw, if_neg (by simp)]
      exact pass _ hH h'

/-- What an end of code says of the machine's state. -/
def Iq (F : List Ent) (w0 : World) (n : Nat) (Q : Exit → Env → HL → Prop) (e : Exit) (a : Act) (w : World) : Prop :=
  match e with
  | .outgrown => False
  | .panic c => a.defers = [] ∧ ∃ H, Q (.panic c) [] H ∧ Ok F H w0 w
  | e => a.defers = [] ∧ a.tmps.size = n ∧ ∃ ρ H, Q e ρ H ∧ Holds ρ a ∧ Ok F H w0 w

theorem ops_sound {P : Program} {ops : Array Oper} {n : Nat} {F : List Ent} {w0 : World} {Q : Exit → Env → HL → Prop} : ∀ (l : List Oper) (il : List In), compL P ops l = some il →
    ∀ (ρ : Env) (H : HL) (a : Act) (w : World), Holds ρ a → a.tmps.size = n → a.defers = [] → Ok F H w0 w → opsVC P n il (fun ρ H => Q .normal ρ H) (fun c H => Q (.panic c) [] H) ρ H →
    wpList P ops (Iq F w0 n Q) l a w := by
  intro l
  induction l with
  | nil =>
    intro il hc ρ H a w hH hs hd hok h
    simp only [compL] at hc
    cases hc
    exact ⟨hd, hs, ρ, H, h, hH, hok⟩
  | cons o l ih =>
    intro il hc ρ H a w hH hs hd hok h
    simp only [compL] at hc
    obtain ⟨i, hi, hc⟩ := optOf_some hc
    obtain ⟨r, hr, hc⟩ := optOf_some hc
    cases hc
    exact in_sound hi hH hs hok h (fun ρ' H' a' w' k hH' hs' hd' hok' => ih r hr ρ' H' a' w' hH' hs' (by rw [hd', hd]) hok' k) (fun c H' w' k hok' => ⟨hd, H', k, hok'⟩)

/-- A piece taken out of others. -/
inductive Rem : Chunk → HL → HL → Prop
  | here (c : Chunk) (H : HL) : Rem c (c :: H) H
  | none (H : HL) : Rem (.many []) H H
  | there {c d : Chunk} {H R : HL} (h : Rem c H R) : Rem c (d :: H) (d :: R)

inductive Take : HL → HL → HL → Prop
  | nil (H : HL) : Take [] H H
  | cons {c : Chunk} {A H H1 R : HL} (h : Rem c H H1) (t : Take A H1 R) : Take (c :: A) H R
  | re {A H H' R : HL} (hf : (flat H).Perm (flat H')) (t : Take A H' R) : Take A H R

theorem Rem.perm {c : Chunk} {H R : HL} (h : Rem c H R) : (flat H).Perm (c.ents ++ flat R) := by
  induction h with
  | here => exact List.Perm.refl _
  | none => exact List.Perm.refl _
  | @there c d H R h ih =>
    show (d.ents ++ flat H).Perm (c.ents ++ (d.ents ++ flat R))
    exact (ih.append_left d.ents).trans (by rw [← List.append_assoc, ← List.append_assoc]; exact List.perm_append_comm.append_right _)

theorem Take.perm {A H R : HL} (h : Take A H R) : (flat H).Perm (flat A ++ flat R) := by
  induction h with
  | nil H => exact List.Perm.refl _
  | @cons c A H H1 R h t ih =>
    show (flat H).Perm ((c.ents ++ flat A) ++ flat R)
    rw [List.append_assoc]
    exact h.perm.trans (ih.append_left _)
  | re hf _ ih => exact hf.trans ih

theorem Ok.take {F : List Ent} {A H R : HL} {w0 w : World} (h : Ok F H w0 w) (t : Take A H R) : Ok (flat R ++ F) A w0 w :=
  h.perm (by rw [← List.append_assoc]; exact t.perm.append_right F)

theorem Ok.drop {X F : List Ent} {H : HL} {w0 w : World} (h : Ok (X ++ F) H w0 w) : Ok F H w0 w := by
  refine ⟨fun e he => h.sat e ?_, ?_, h.ext⟩
  · rcases List.mem_append.1 he with he | he <;> simp [he]
  · have hsub : (flat H ++ F).Sublist (flat H ++ (X ++ F)) := (List.Sublist.refl _).append (List.sublist_append_right X F)
    exact (hsub.map Prod.fst).nodup h.nodup

/-- Less is known of slots, of pieces. -/
structure Weak (ρ : Env) (H : HL) (ρ' : Env) (H' R : HL) : Prop where
  sub : ∀ s v, look ρ' s = some v → look ρ s = some v
  take : Take H' H R

def SubE : Env → Env → Prop
  | [], _ => True
  | (s, v) :: r, ρ => look ρ s = some v ∧ SubE r ρ

theorem SubE.sub : ∀ {ρ' ρ : Env}, SubE ρ' ρ → ∀ s v, look ρ' s = some v → look ρ s = some v := by
  intro ρ'
  induction ρ' with
  | nil => intro ρ _ s v h; simp [look] at h
  | cons p r ih =>
    intro ρ h s v hs
    obtain ⟨t, u⟩ := p
    by_cases ht : t = s
    · subst ht
      rw [look_cons_same] at hs
      cases hs
      exact h.1
    · rw [look_cons_other _ _ ht] at hs
      exact ih h.2 s v hs

theorem Holds.weak {ρ ρ' : Env} {H H' R : HL} {a : Act} (h : Holds ρ a) (hw : Weak ρ H ρ' H' R) : Holds ρ' a := fun i v hi => h i v (hw.sub i v hi)

/-- What a round hands on. -/
inductive Again {ι : Type} (ρs : ι → Env) (Hs : ι → HL) (Inv : ι → Prop) (μ : ι → Nat) (m : Nat) (ρ : Env) (H : HL) : Prop
  | mk (i : ι) (J : HL) (hm : μ i < m) (hi : Inv i) (hs : SubE (ρs i) ρ) (ht : Take (Hs i) H J)

/-- A loop, by slots and pieces at each round's head; what it does not touch stays aside. -/
inductive LoopVC (V : (Exit → Env → HL → Prop) → Env → HL → Prop) (Q : Exit → Env → HL → Prop) (ρ : Env) (H : HL) : Prop
  | mk {ι : Type} (ρs : ι → Env) (Hs : ι → HL) (Inv : ι → Prop) (μ : ι → Nat) (i₀ : ι) (R : HL) (h₀ : Inv i₀) (hs : SubE (ρs i₀) ρ) (ht : Take (Hs i₀) H R)
      (round : ∀ i, Inv i → V (fun e ρ' H' => match e with
        | .normal => Again ρs Hs Inv μ (μ i) ρ' H'
        | e => appL H' R (Q e ρ')) (ρs i) (Hs i))

/-- What one of the ways hands on where they meet. -/
inductive Meets {ι : Type} (ρs : ι → Env) (Hs : ι → HL) (Inv : ι → Prop) (ρ : Env) (H : HL) : Prop
  | mk (i : ι) (J : HL) (hi : Inv i) (hs : SubE (ρs i) ρ) (ht : Take (Hs i) H J)

/-- Where several ways meet: each by itself, or all by what holds of each. -/
inductive JoinVC (Va : (Exit → Env → HL → Prop) → Env → HL → Prop) (Vb : Env → HL → Prop) (Q : Exit → Env → HL → Prop) (ρ : Env) (H : HL) : Prop
  | thru (h : Va (fun e ρ H => match e with | .normal => Vb ρ H | e => Q e ρ H) ρ H)
  | cut {ι : Type} (ρs : ι → Env) (Hs : ι → HL) (Inv : ι → Prop) (ha : Va (fun e ρ' H' => match e with | .normal => Meets ρs Hs Inv ρ' H' | e => Q e ρ' H') ρ H)
      (hb : ∀ i, Inv i → Vb (ρs i) (Hs i))

/-- A region whose order is drawn: what must hold stands in Vc6. -/
abbrev DregVC := Program → Nat → List It → (Exit → Env → HL → Prop) → Env → HL → Prop

def thenQ (k : Env → HL → Prop) (Q : Exit → Env → HL → Prop) (e : Exit) (ρ : Env) (H : HL) : Prop :=
  match e with
  | .normal => k ρ H
  | e => Q e ρ H

def blockQ (id : Nat) (Q : Exit → Env → HL → Prop) (e : Exit) (ρ : Env) (H : HL) : Prop :=
  match e with
  | .exit j => match Nat.beq j id with
    | true => Q .normal ρ H
    | false => Q (.exit j) ρ H
  | e => Q e ρ H

def VC (D : DregVC) (P : Program) (n : Nat) : Cd → (Exit → Env → HL → Prop) → Env → HL → Prop
  | .skip, Q, ρ, H => Q .normal ρ H
  | .ret, Q, ρ, H => Q .ret ρ H
  | .exit id, Q, ρ, H => Q (.exit id) ρ H
  | .reg l, Q, ρ, H => opsVC P n l (fun ρ H => Q .normal ρ H) (fun c H => Q (.panic c) [] H) ρ H
  | .dreg l, Q, ρ, H => D P n l Q ρ H
  | .seq a b, Q, ρ, H => VC D P n a (thenQ (fun ρ H => VC D P n b Q ρ H) Q) ρ H
  | .join a b, Q, ρ, H => JoinVC (fun Q ρ H => VC D P n a Q ρ H) (fun ρ H => VC D P n b Q ρ H) Q ρ H
  | .cond c a b, Q, ρ, H => evK ρ c fun v => onBool v fun t => BV t (VC D P n a Q ρ H) (VC D P n b Q ρ H)
  | .block id b, Q, ρ, H => VC D P n b (blockQ id Q) ρ H
  | .loop b, Q, ρ, H => LoopVC (fun Q ρ H => VC D P n b Q ρ H) Q ρ H

/-- On how many ways code ends, or leaves a block. -/
def exitsTo (id : Nat) : Cd → Nat
  | .exit j => match Nat.beq j id with
    | true => 1
    | false => 0
  | .seq a b | .join a b | .cond _ a b => exitsTo id a + exitsTo id b
  | .block _ b | .loop b => exitsTo id b
  | _ => 0

def ways : Cd → Nat
  | .ret | .exit _ | .loop _ => 0
  | .seq a b | .join a b => ways a * ways b
  | .cond _ a b => ways a + ways b
  | .block id b => ways b + exitsTo id b
  | _ => 1

def seqOf (a b : Cd) : Cd :=
  match Nat.ble 2 (ways a) with
  | true => .join a b
  | false => .seq a b

def comp (D : Program → Array Oper → Option (List It)) (P : Program) : Code → Option Cd
  | .skip => some .skip
  | .ret => some .ret
  | .exit id => some (.exit id)
  | .region _ ops false => optOf (compL P ops ops.toList) fun l => some (.reg l)
  | .region _ ops true => optOf (D P ops) fun l => some (.dreg l)
  | .seq a b => optOf (comp D P a) fun x => optOf (comp D P b) fun y => some (seqOf x y)
  | .cond c a b => optOf (comp D P a) fun x => optOf (comp D P b) fun y => some (.cond c x y)
  | .block id b => optOf (comp D P b) fun x => some (.block id x)
  | .loop b => optOf (comp D P b) fun x => some (.loop x)
  | _ => none

/-- Are all regions whose order is drawn such that one order stands for all? -/
def ckd (C : Program → Array Oper → Bool) (P : Program) : Code → Bool
  | .region _ ops true => C P ops
  | .seq a b => ckd C P a && ckd C P b
  | .cond _ a b => ckd C P a && ckd C P b
  | .block _ b => ckd C P b
  | .loop b => ckd C P b
  | _ => true

theorem Iq_then {F : List Ent} {w0 : World} {n : Nat} {Q : Exit → Env → HL → Prop} {k : Env → HL → Prop} {K : Act → World → Prop}
    (h : ∀ ρ H a w, k ρ H → Holds ρ a → a.tmps.size = n → a.defers = [] → Ok F H w0 w → K a w) (e : Exit) (a : Act) (w : World) (hq : Iq F w0 n (thenQ k Q) e a w) : Exit.then K (Iq F w0 n Q) e a w := by
  cases e with
  | normal => obtain ⟨hd, hs, ρ, H, hk, hH, hok⟩ := hq; exact h ρ H a w hk hH hs hd hok
  | _ => exact hq

theorem comp_sound {D : Program → Array Oper → Option (List It)} {C : Program → Array Oper → Bool} {V : DregVC} {P : Program} {n : Nat}
    (hD : ∀ id ops l (F : List Ent) w0 (Q : Exit → Env → HL → Prop) ρ H a w, D P ops = some l → C P ops = true → Holds ρ a → a.tmps.size = n → a.defers = [] → Ok F H w0 w → V P n l Q ρ H → (Code.region id ops true).wp P (Iq F w0 n Q) a w) :
    ∀ (c : Code) (cd : Cd), comp D P c = some cd → ckd C P c = true → ∀ (F : List Ent) (w0 : World) (Q : Exit → Env → HL → Prop) (ρ : Env) (H : HL) (a : Act) (w : World), Holds ρ a → a.tmps.size = n → a.defers = [] →
      Ok F H w0 w → VC V P n cd Q ρ H → c.wp P (Iq F w0 n Q) a w := by
  intro c
  induction c with
  | skip => intro cd hc hk F w0 Q ρ H a w hH hs hd hok h; cases hc; exact wp_skip ⟨hd, hs, ρ, H, h, hH, hok⟩
  | ret => intro cd hc hk F w0 Q ρ H a w hH hs hd hok h; cases hc; exact wp_ret ⟨hd, hs, ρ, H, h, hH, hok⟩
  | exit id => intro cd hc hk F w0 Q ρ H a w hH hs hd hok h; cases hc; exact wp_exit ⟨hd, hs, ρ, H, h, hH, hok⟩
  | region id ops draw =>
    intro cd hc hk F w0 Q ρ H a w hH hs hd hok h
    cases draw with
    | false =>
      obtain ⟨l, hl, hc⟩ := optOf_some hc
      cases hc
      exact wp_region_list (ops_sound _ _ hl ρ H a w hH hs hd hok h)
    | true =>
      obtain ⟨l, hl, hc⟩ := optOf_some hc
      cases hc
      exact hD id ops l F w0 Q ρ H a w hl hk hH hs hd hok h
  | seq x y ihx ihy =>
    intro cd hc hk F w0 Q ρ H a w hH hs hd hok h
    obtain ⟨cx, hx, hc⟩ := optOf_some hc
    obtain ⟨cy, hy, hc⟩ := optOf_some hc
    have hc := Option.some.inj hc
    simp only [ckd, Bool.and_eq_true] at hk
    have plain : VC V P n (.seq cx cy) Q ρ H → (Code.seq x y).wp P (Iq F w0 n Q) a w := by
      intro h
      refine wp_seq (wp_mono (ihx cx hx hk.1 F w0 _ ρ H a w hH hs hd hok h) ?_)
      exact Iq_then fun ρ H a w hk' hH hs hd hok => ihy cy hy hk.2 F w0 Q ρ H a w hH hs hd hok hk'
    unfold seqOf at hc
    split at hc
    · subst hc
      rcases h with h | ⟨ρs, Hs, Inv, ha, hb⟩
      · refine wp_seq (wp_mono (ihx cx hx hk.1 F w0 _ ρ H a w hH hs hd hok h) ?_)
        intro e a' w' hq
        cases e with
        | normal => obtain ⟨hd', hs', ρ', H', hkq, hH', hok'⟩ := hq; exact ihy cy hy hk.2 F w0 Q ρ' H' a' w' hH' hs' hd' hok' hkq
        | _ => exact hq
      · refine wp_seq (wp_mono (ihx cx hx hk.1 F w0 _ ρ H a w hH hs hd hok ha) ?_)
        intro e a' w' hq
        cases e with
        | normal =>
          obtain ⟨hd', hs', ρ', H', ⟨i, J, hi, hsub, ht⟩, hH', hok'⟩ := hq
          have hwk : Weak ρ' H' (ρs i) (Hs i) J := ⟨hsub.sub, ht⟩
          exact ihy cy hy hk.2 F w0 Q _ _ a' w' (hH'.weak hwk) hs' hd' (hok'.take ht).drop (hb i hi)
        | _ => exact hq
    · subst hc
      exact plain h
  | cond c x y ihx ihy =>
    intro cd hc hk F w0 Q ρ H a w hH hs hd hok h
    obtain ⟨cx, hx, hc⟩ := optOf_some hc
    obtain ⟨cy, hy, hc⟩ := optOf_some hc
    cases hc
    simp only [ckd, Bool.and_eq_true] at hk
    obtain ⟨v, hv, h⟩ := evK.out h
    obtain ⟨t, rfl, h'⟩ := onBool.out h
    refine wp_cond_split (hH.eval hv) (fun ht => ?_) (fun ht => ?_)
    · exact ihx cx hx hk.1 F w0 Q ρ H a w hH hs hd hok (h'.ht ht)
    · exact ihy cy hy hk.2 F w0 Q ρ H a w hH hs hd hok (h'.hf ht)
  | block id b ih =>
    intro cd hc hk F w0 Q ρ H a w hH hs hd hok h
    obtain ⟨cb, hb, hc⟩ := optOf_some hc
    cases hc
    refine wp_block (wp_mono (ih cb hb hk F w0 _ ρ H a w hH hs hd hok h) ?_)
    intro e a' w' hq
    cases e with
    | exit j =>
      obtain ⟨hd', hs', ρ', H', hkq, hH', hok'⟩ := hq
      simp only [blockQ] at hkq
      simp only [Exit.inBlock]
      split at hkq
      · rename_i hj
        rw [if_pos (Nat.eq_of_beq_eq_true hj)]
        exact ⟨hd', hs', ρ', H', hkq, hH', hok'⟩
      · rename_i hj
        rw [if_neg (fun e => by subst e; simp at hj)]
        exact ⟨hd', hs', ρ', H', hkq, hH', hok'⟩
    | _ => exact hq
  | loop b ih =>
    intro cd hc hk F w0 Q ρ H a w hH hs hd hok h
    obtain ⟨cb, hb, hc⟩ := optOf_some hc
    cases hc
    obtain ⟨ρs, Hs, Inv, μ, i₀, R, h₀, hsub, ht, round⟩ := h
    have hw : Weak ρ H (ρs i₀) (Hs i₀) R := ⟨hsub.sub, ht⟩
    refine wp_loop_ghost (fun m a w => a.defers = [] ∧ a.tmps.size = n ∧ ∃ i, Inv i ∧ μ i = m ∧ Holds (ρs i) a ∧ Ok (flat R ++ F) (Hs i) w0 w) (μ i₀) ⟨hd, hs, i₀, h₀, rfl, hH.weak hw, hok.take ht⟩ ?_
    rintro m a w ⟨hd, hs, i, hI, rfl, hH, hok⟩
    have back : ∀ {A : HL} {w : World}, Ok (flat R ++ F) A w0 w → Ok F (A ++ R) w0 w := fun h => h.perm (by simp)
    refine wp_mono (ih cb hb hk (flat R ++ F) w0 _ (ρs i) (Hs i) a w hH hs hd hok (round i hI)) ?_
    intro e a' w' hq
    cases e with
    | normal =>
      obtain ⟨hd', hs', ρ', H', ⟨j, J, hlt, hI', hsub', ht'⟩, hH', hok'⟩ := hq
      have hwk : Weak ρ' H' (ρs j) (Hs j) J := ⟨hsub'.sub, ht'⟩
      exact ⟨_, hlt, hd', hs', j, hI', rfl, hH'.weak hwk, (hok'.take ht').drop⟩
    | outgrown => exact hq
    | panic c =>
      obtain ⟨hd', H', hq, hok'⟩ := hq
      simp only [appL_eq] at hq
      exact ⟨hd', _, hq, back hok'⟩
    | exit j =>
      obtain ⟨hd', hs', ρ', H', hq, hH', hok'⟩ := hq
      simp only [appL_eq] at hq
      exact ⟨hd', hs', ρ', _, hq, hH', back hok'⟩
    | ret =>
      obtain ⟨hd', hs', ρ', H', hq, hH', hok'⟩ := hq
      simp only [appL_eq] at hq
      exact ⟨hd', hs', ρ', _, hq, hH', back hok'⟩
    | goto j =>
      obtain ⟨hd', hs', ρ', H', hq, hH', hok'⟩ := hq
      simp only [appL_eq] at hq
      exact ⟨hd', hs', ρ', _, hq, hH', back hok'⟩
  | _ => intro cd hc; cases hc

end Go.Sv
