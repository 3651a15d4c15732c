/- Regions whose order is drawn: one order that stands for all, and what must hold for that. -/
import Derived.Test.YtccofnngpijihaaGreatVc5
set_option linter.all false
namespace Go.Sv

inductive Hs where
  | st (f : HL → Prop)
  | ob (m : MkV) (o : Obj)

inductive Both (A B : Prop) : Prop
  | mk (a : A) (b : B)

def lookH : List (Nat × Hs) → Nat → Option Hs
  | [], _ => none
  | (i, v) :: r, t => match Nat.beq i t with
    | true => some v
    | false => lookH r t

/-- An operation's guard. -/
def gVC (o : In) (ρ : Env) (run pass : Env → Prop) : Prop :=
  match o.g with
  | none => run ρ
  | some (s, want) => evK ρ (.tmp s) fun v => onGuard v
    (fun t => match want with
      | true => BV t (run ((s, .bool true) :: ρ)) (pass ((s, .bool false) :: ρ))
      | false => BV t (pass ((s, .bool true) :: ρ)) (run ((s, .bool false) :: ρ)))
    (pass ρ)

/-- What was read ahead of an effect that it may follow reads the same behind it. -/
def stabs (hist : List (Nat × Hs)) (H : HL) : List Nat → Prop → Prop
  | [], X => X
  | i :: r, X => match lookH hist i with
    | some (.st f) => Both (f H) (stabs hist H r X)
    | _ => stabs hist H r X

def dVC (P : Program) (n : Nat) : List It → List (Nat × Hs) → (Env → HL → Prop) → (List PanicEntry → HL → Prop) → Env → HL → Prop
  | [], _, K, _, ρ, H => K ρ H
  | y :: l, hist, K, E, ρ, H => match y.ph with
    | .com => match lookH hist y.id with
      | some (.ob m o) => ∀ b, mkK m b fun v => putK n y.o.d v ρ fun ρ' => dVC P n l hist K E ρ' (.one b o :: H)
      | _ => putK n y.o.d undef ρ fun ρ' => dVC P n l hist K E ρ' H
    | .prep => match y.o.i with
      | .a e => gVC y.o ρ (fun ρ' => aeVC ρ' e fun m o => dVC P n l ((y.id, .ob m o) :: hist) K E ρ' H) (fun ρ' => dVC P n l hist K E ρ' H)
      | _ => False
    | .go => match y.o.i with
      | .p e => gVC y.o ρ (fun ρ' => peVC ρ' e fun v => putK n y.o.d v ρ' fun ρ'' => dVC P n l hist K E ρ'' H) (fun ρ' => putK n y.o.d undef ρ' fun ρ'' => dVC P n l hist K E ρ'' H)
      | .r e => gVC y.o ρ (fun ρ' => reVC P ρ' H e fun v => putK n y.o.d v ρ' fun ρ'' => dVC P n l ((y.id, .st fun H' => reVC P ρ' H' e fun v' => v' = v) :: hist) K E ρ'' H)
          (fun ρ' => putK n y.o.d undef ρ' fun ρ'' => dVC P n l hist K E ρ'' H)
      | .e e => gVC y.o ρ (fun ρ' => eeVC P ρ' H e (fun v H' => stabs hist H' y.chk (putK n y.o.d v ρ' fun ρ'' => dVC P n l hist K E ρ'' H')) E)
          (fun ρ' => putK n y.o.d undef ρ' fun ρ'' => dVC P n l hist K E ρ'' H)
      | .a _ => False

def dregVC (P : Program) (n : Nat) (l : List It) (Q : Exit → Env → HL → Prop) (ρ : Env) (H : HL) : Prop :=
  dVC P n l [] (fun ρ H => Q .normal ρ H) (fun c H => Q (.panic c) [] H) ρ H

/-! The order: what only reads as early as may be, what makes memory as late. -/

def kindOf : Ins → Nat
  | .p _ => 0
  | .r _ => 1
  | .a _ => 2
  | .e _ => 3

/-- Of operations from number i on (kinds, what they come behind as bits): the first that may go, by a pass's wish. -/
def firstOf (p : Nat → Nat → Bool) : List (Nat × Nat) → Nat → Option Nat
  | [], _ => none
  | (k, b) :: r, i => match p i (k + 4 * b) with
    | true => some i
    | false => firstOf p r (i + 1)

def isIn (m i : Nat) : Bool := Nat.testBit m i
def under (b m : Nat) : Bool := Nat.beq (Nat.land b m) b

/-- A number, reckoned out. -/
def fz {α : Type} (n : Nat) (k : Nat → α) : α :=
  match n with
  | 0 => k 0
  | m + 1 => k (m + 1)
def litL {α : Type} : List Nat → (List Nat → Option α) → Option α
  | [], k => k []
  | x :: r, k => lit x fun x => litL r fun r => k (x :: r)
theorem litL_eq {α : Type} : ∀ (l : List Nat) (k : List Nat → Option α), litL l k = k l := by
  intro l
  induction l with
  | nil => intro k; rfl
  | cons x l ih => intro k; simp only [litL, lit_eq, ih]

def pickT (kb : List (Nat × Nat)) : Nat → Nat → Nat → List (Nat × Ph)
  | 0, _, _ => []
  | fuel + 1, done, prepped =>
    match firstOf (fun i kb => !isIn done i && under (kb / 4) done && Nat.ble (kb % 4) 1) kb 0 with
    | some i => (i, .go) :: fz (done + 2 ^ i) fun done => pickT kb fuel done prepped
    | none => match firstOf (fun i kb => !isIn done i && !isIn prepped i && under (kb / 4) done && Nat.beq (kb % 4) 2) kb 0 with
      | some i => (i, .prep) :: fz (prepped + 2 ^ i) fun prepped => pickT kb fuel done prepped
      | none => match firstOf (fun i kb => !isIn done i && under (kb / 4) done && Nat.beq (kb % 4) 3) kb 0 with
        | some i => (i, .go) :: fz (done + 2 ^ i) fun done => pickT kb fuel done prepped
        | none => match firstOf (fun i kb => !isIn done i && under (kb / 4) done) kb 0 with
          | some i => (i, .com) :: fz (done + 2 ^ i) fun done => pickT kb fuel done prepped
          | none => []

/-- What each operation comes behind, as bits. -/
def edgeBits (bs : List Nat) : List Edge → Nat
  | [] => 0
  | e :: r => match Region.binds .any e with
    | true => Nat.lor (Nat.lor (2 ^ e.on) ((nth bs e.on).getD 0)) (edgeBits bs r)
    | false => edgeBits bs r

def allBits : List Oper → List Nat → List Nat
  | [], bs => bs
  | o :: r, bs => fz (edgeBits bs o.after.toList) fun b => allBits r (bs ++ [b])

/-- The readings ahead of an effect that need not come ahead of it. -/
def chkOf (il : List In) (by_ : Nat) : List (Nat × Ph) → List Nat
  | [] => []
  | (i, _) :: r => match nth il i with
    | some o => match Nat.beq (kindOf o.i) 1 && !isIn by_ i with
      | true => i :: chkOf il by_ r
      | false => chkOf il by_ r
    | none => chkOf il by_ r

def attach (il : List In) (bs : List Nat) : List (Nat × Ph) → List (Nat × Ph) → Option (List It)
  | _, [] => some []
  | pre, (i, ph) :: r => lit i fun i => optOf (nth il i) fun o => optOf (attach il bs ((i, ph) :: pre) r) fun l =>
    litL (match Nat.beq (kindOf o.i) 3 with | true => chkOf il ((nth bs i).getD 0) pre | false => []) fun ck => some (⟨i, ph, o, ck⟩ :: l)

def kbOf : List In → List Nat → List (Nat × Nat)
  | o :: l, b :: bs => (kindOf o.i, b) :: kbOf l bs
  | _, _ => []

def schedD (P : Program) (ops : Array Oper) : Option (List It) :=
  optOf (compL P ops ops.toList) fun il =>
    let bs := allBits ops.toList []
    attach il bs [] (pickT (kbOf il bs) (2 * il.length) 0 0)

/-! What must be of such an order. -/

def plike (x : It) : Bool :=
  match x.ph, x.o.i with
  | .prep, _ => true
  | .go, .p _ => true
  | .go, .r _ => true
  | _, _ => false

def isRd (x : It) : Bool := match x.o.i with | .r _ => true | _ => false
def isEf (x : It) : Bool := match x.o.i with | .e _ => true | _ => false

def phOk (x : It) : Bool :=
  match x.ph, x.o.i with
  | .prep, .a _ => true
  | .com, .a _ => true
  | .go, .p _ => true
  | .go, .r _ => true
  | .go, .e _ => true
  | _, _ => false

def same (x y : It) : Bool := Nat.beq x.id y.id && decide (x.ph = y.ph)

def itemOk (ops : Array Oper) (bs : List Nat) (pre : List It) (y : It) : Bool :=
  !(pre.any fun x => same x y) && phOk y &&
  (decide (y.ph ≠ .com) || pre.any fun x => Nat.beq x.id y.id && decide (x.ph = .prep)) &&
  ((ops[y.id]?).any fun o => o.after.toList.all fun e => !Region.binds .any e || pre.any fun x => Nat.beq x.id e.on && decide (x.ph ≠ .prep)) &&
  (pre.all fun x => Nat.beq x.id y.id || plike x || decide (y.ph = .com) || isIn ((nth bs y.id).getD 0) x.id) &&
  (!isEf y || pre.all fun x => !isRd x || isIn ((nth bs y.id).getD 0) x.id || y.chk.contains x.id)

def walkOk (ops : Array Oper) (bs : List Nat) : List It → List It → Bool
  | _, [] => true
  | pre, y :: l => itemOk ops bs pre y && walkOk ops bs (pre ++ [y]) l

/-- Two operations in an order, or of nothing common. -/
def pairOk (ops : Array Oper) (bs : List Nat) (i j : Nat) : Bool :=
  isIn ((nth bs j).getD 0) i || isIn ((nth bs i).getD 0) j || match ops[i]?, ops[j]? with
    | some x, some y => x.apart ops y && y.apart ops x
    | _, _ => false

def dstOk (ops : Array Oper) (i j : Nat) : Bool :=
  match (ops[i]?).bind (·.dst), (ops[j]?).bind (·.dst) with
  | some x, some y => !Nat.beq x y
  | _, _ => true

def bitOk (ops : Array Oper) (bs : List Nat) (i x : Nat) : Bool :=
  !isIn ((nth bs i).getD 0) x || (ops[i]?).any fun o => o.after.toList.any fun e => Region.binds .any e && (Nat.beq e.on x || isIn ((nth bs e.on).getD 0) x)

def dOk (P : Program) (ops : Array Oper) : Bool :=
  match schedD P ops with
  | none => false
  | some l =>
    let bs := allBits ops.toList []
    let n := ops.size
    walkOk ops bs [] l && ((List.range n).all fun i => l.any fun x => Nat.beq x.id i && decide (x.ph ≠ .prep)) && (l.all fun x => Nat.ble (x.id + 1) n) &&
    ((List.range n).all fun i => (List.range n).all fun j => Nat.beq i j || (pairOk ops bs i j && dstOk ops i j)) &&
    ((List.range n).all fun i => (List.range n).all fun x => bitOk ops bs i x) && Region.noSelect ops

end Go.Sv
