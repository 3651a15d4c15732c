/- The frame of the proofs of this folder: pieces of memory as lists, what a world holds of them, contracts of functions over them. -/
import Derived.Tactics
import Derived.Orders
import Derived.Below
set_option linter.all false
namespace Go.Sv

abbrev Ent := Nat × Obj

/-- A piece of memory: one block, or several that stand for something. -/
inductive Chunk where
  | one (b : Nat) (o : Obj)
  | many (T : List Ent)

abbrev HL := List Chunk

def Chunk.ents : Chunk → List Ent
  | .one b o => [(b, o)]
  | .many T => T

def flat : HL → List Ent
  | [] => []
  | c :: H => c.ents ++ flat H

@[simp] theorem flat_nil : flat [] = [] := rfl
@[simp] theorem flat_one (b : Nat) (o : Obj) (H : HL) : flat (.one b o :: H) = (b, o) :: flat H := rfl
@[simp] theorem flat_many (T : List Ent) (H : HL) : flat (.many T :: H) = T ++ flat H := rfl
@[simp] theorem flat_append (A B : HL) : flat (A ++ B) = flat A ++ flat B := by
  induction A with
  | nil => rfl
  | cons c A ih => show c.ents ++ flat (A ++ B) = c.ents ++ flat A ++ flat B; rw [ih, List.append_assoc]

structure Ext (w0 w : World) : Prop where
  os : w.os = w0.os
  tape : w.tape = w0.tape
  output : w.output = w0.output

theorem Ext.refl (w : World) : Ext w w := ⟨rfl, rfl, rfl⟩

/-- The world holds these pieces, and a frame F besides; no block twice. -/
structure Ok (F : List Ent) (H : HL) (w0 w : World) : Prop where
  sat : ∀ e ∈ flat H ++ F, w.heap[e.1]? = some e.2
  nodup : ((flat H ++ F).map Prod.fst).Nodup
  ext : Ext w0 w

theorem Ok.perm {F F' : List Ent} {H H' : HL} {w0 w : World} (h : Ok F H w0 w) (hp : (flat H ++ F).Perm (flat H' ++ F')) : Ok F' H' w0 w :=
  ⟨fun e he => h.sat e (hp.mem_iff.2 he), (hp.map Prod.fst).nodup_iff.1 h.nodup, h.ext⟩

theorem mem_flat {b : Nat} {o : Obj} {H : HL} (h : Chunk.one b o ∈ H) : (b, o) ∈ flat H := by
  induction H with
  | nil => cases h
  | cons c H ih =>
    rcases List.mem_cons.1 h with rfl | h
    · simp
    · exact List.mem_append.2 (.inr (ih h))

theorem Ok.get {F : List Ent} {H : HL} {w0 w : World} (h : Ok F H w0 w) {b : Nat} {o : Obj} (hb : Chunk.one b o ∈ H) : w.heap[b]? = some o :=
  h.sat (b, o) (List.mem_append.2 (.inl (mem_flat hb)))

theorem Ok.drew {F : List Ent} {H : HL} {w0 w : World} (h : Ok F H w0 w) : Ok F H w0 w.drew := ⟨h.sat, h.nodup, h.ext.os, h.ext.tape, h.ext.output⟩

theorem Ok.lt {F : List Ent} {H : HL} {w0 w : World} (h : Ok F H w0 w) {e : Ent} (he : e ∈ flat H ++ F) : e.1 < w.heap.size := by
  have := h.sat e he
  exact (Array.getElem?_eq_some_iff.1 this).1

theorem Ok.alloc {F : List Ent} {H : HL} {w0 w : World} (h : Ok F H w0 w) (o : Obj) : Ok F (.one w.heap.size o :: H) w0 (w.alloc o) := by
  refine ⟨fun e he => ?_, ?_, h.ext.os, h.ext.tape, h.ext.output⟩
  · show (w.heap.push o)[e.1]? = _
    rw [Array.getElem?_push]
    rcases List.mem_cons.1 he with rfl | he
    · simp
    · rw [if_neg (by have := h.lt he; omega)]; exact h.sat e he
  · simp only [flat_one, List.cons_append, List.map_cons, List.nodup_cons]
    refine ⟨fun hm => ?_, h.nodup⟩
    obtain ⟨e, he, heq⟩ := List.mem_map.1 hm
    have := h.lt he
    omega

/-- What an early block of an open order is: it lies in the frame till its turn comes. -/
theorem Ok.frame_alloc {F : List Ent} {H : HL} {w0 w : World} (h : Ok F H w0 w) (o : Obj) : Ok ((w.heap.size, o) :: F) H w0 (w.alloc o) :=
  (h.alloc o).perm (by simpa using List.perm_middle.symm)

theorem Ok.of_heap {F : List Ent} {H : HL} {w0 w w' : World} (h : Ok F H w0 w) {A B : HL} {b : Nat} {o o' : Obj} (hH : H = A ++ .one b o :: B)
    (hheap : ∀ i, i ≠ b → w'.heap[i]? = w.heap[i]?) (hb : w'.heap[b]? = some o') (he : Ext w0 w') : Ok F (A ++ .one b o' :: B) w0 w' := by
  subst hH
  have hn := h.nodup
  simp only [flat_append, flat_one, List.append_assoc, List.cons_append, List.map_append, List.map_cons] at hn
  rw [List.nodup_append] at hn
  obtain ⟨_, h2, h3⟩ := hn
  rw [List.nodup_cons] at h2
  refine ⟨fun e hm => ?_, ?_, he⟩
  · simp only [flat_append, flat_one, List.append_assoc, List.cons_append] at hm
    by_cases hbe : e.1 = b
    · rcases List.mem_append.1 hm with hm | hm
      · exact absurd hbe (h3 e.1 (List.mem_map_of_mem hm) b (by simp))
      · rcases List.mem_cons.1 hm with rfl | hm
        · exact hb
        · exact absurd (by rw [← hbe, ← List.map_append]; exact List.mem_map_of_mem hm) h2.1
    · rw [hheap _ hbe]
      refine h.sat e ?_
      simp only [flat_append, flat_one, List.append_assoc, List.cons_append]
      rcases List.mem_append.1 hm with hm | hm
      · exact List.mem_append.2 (.inl hm)
      · rcases List.mem_cons.1 hm with rfl | hm
        · exact absurd rfl hbe
        · exact List.mem_append.2 (.inr (List.mem_cons_of_mem _ hm))
  · have hn := h.nodup
    simpa only [flat_append, flat_one, List.append_assoc, List.cons_append, List.map_append, List.map_cons] using hn

/-- How a call ends. -/
inductive Out where
  | ret (v : Value)
  | panic (c : List PanicEntry)

def Out.ending : Out → Ending
  | .ret v => .returned v
  | .panic c => .panicked c

/-- A contract: called with these arguments in a world that holds 'pre', it ends so that 'post' holds; what else there is stays. -/
def Spec (P : Program) (f : FuncId) (args : List Value) (pre : HL) (post : Out → HL → Prop) : Prop :=
  ∀ (F : List Ent) (w0 w : World), Ok F pre w0 w →
    Calls P f args.toArray w fun e w' => ∃ o H', e = o.ending ∧ post o H' ∧ Ok F H' w0 w'

/-- The values that slots hold, the youngest ahead. -/
abbrev Env := List (Nat × Value)

def look : Env → Nat → Option Value
  | [], _ => none
  | (i, v) :: r, t => match Nat.beq i t with
    | true => some v
    | false => look r t

def ev (ρ : Env) : Operand → Option Value
  | .tmp t => look ρ t
  | .const v => some v
  | .global g => some (.pointer (some ⟨g, 0, none⟩))
  | .func f => some (.func (.func f) #[] #[])

def Holds (ρ : Env) (a : Act) : Prop := ∀ i v, look ρ i = some v → a.tmps[i]? = some v

theorem Holds.eval {ρ : Env} {a : Act} (h : Holds ρ a) {x : Operand} {v : Value} (hx : ev ρ x = some v) : a.eval x = v := by
  cases x with
  | tmp t => simp only [Act.eval, Array.getD_eq_getD_getElem?, h t v hx, Option.getD_some]
  | const v' => simpa [ev, Act.eval] using hx
  | global g => simpa [ev, Act.eval] using hx
  | func f => simpa [ev, Act.eval] using hx

theorem look_cons_same (d : Nat) (v : Value) (ρ : Env) : look ((d, v) :: ρ) d = some v := by simp [look]
theorem look_cons_other {d t : Nat} (v : Value) (ρ : Env) (h : d ≠ t) : look ((d, v) :: ρ) t = look ρ t := by
  have : Nat.beq d t = false := by
    cases hb : Nat.beq d t with
    | false => rfl
    | true => exact absurd (Nat.eq_of_beq_eq_true hb) h
  simp [look, this]

theorem Holds.put {ρ : Env} {a : Act} (h : Holds ρ a) {d : Nat} (hd : d < a.tmps.size) (v : Value) : Holds ((d, v) :: ρ) (a.put (some d) v) := by
  intro i u hu
  simp only [Act.put]
  by_cases hi : d = i
  · subst hi
    rw [look_cons_same] at hu
    cases hu
    simp [hd]
  · rw [look_cons_other v ρ hi] at hu
    rw [Array.getElem?_setIfInBounds_ne hi]
    exact h i u hu

theorem Holds.put_none {ρ : Env} {a : Act} (h : Holds ρ a) (v : Value) : Holds ρ (a.put none v) := h

/-- The value of an operand, handed on. -/
def evK (ρ : Env) (x : Operand) (K : Value → Prop) : Prop :=
  match ev ρ x with
  | some v => K v
  | none => False

theorem evK.out {ρ : Env} {x : Operand} {K : Value → Prop} (h : evK ρ x K) : ∃ v, ev ρ x = some v ∧ K v := by
  unfold evK at h
  split at h
  · exact ⟨_, ‹_›, h⟩
  · exact h.elim

def evsK (ρ : Env) : List Operand → (List Value → Prop) → Prop
  | [], K => K []
  | x :: xs, K => evK ρ x fun v => evsK ρ xs fun vs => K (v :: vs)

theorem evsK.out {ρ : Env} {xs : List Operand} : ∀ {K : List Value → Prop}, evsK ρ xs K → ∃ vs, xs.map (ev ρ) = vs.map some ∧ K vs := by
  induction xs with
  | nil => intro K h; exact ⟨[], rfl, h⟩
  | cons x xs ih =>
    intro K h
    obtain ⟨v, hv, h⟩ := evK.out h
    obtain ⟨vs, hvs, h⟩ := ih h
    exact ⟨v :: vs, by simp [hv, hvs], h⟩

theorem Holds.evals {ρ : Env} {a : Act} (h : Holds ρ a) {xs : List Operand} {vs : List Value} (hx : xs.map (ev ρ) = vs.map some) : xs.map a.eval = vs := by
  induction xs generalizing vs with
  | nil => cases vs <;> simp_all
  | cons x xs ih =>
    cases vs with
    | nil => simp at hx
    | cons v vs =>
      simp only [List.map_cons, List.cons.injEq] at hx
      simp only [List.map_cons, List.cons.injEq]
      exact ⟨h.eval hx.1, ih hx.2⟩

/-- A choice by a Bool. -/
inductive BV (t : Bool) (A B : Prop) : Prop
  | mk (ht : t = true → A) (hf : t = false → B)

theorem BV.yes {A B : Prop} (h : A) : BV true A B := ⟨fun _ => h, fun h => nomatch h⟩
theorem BV.no {A B : Prop} (h : B) : BV false A B := ⟨fun h => (nomatch h), fun _ => h⟩
theorem BV.dec {c : Prop} [Decidable c] {A B : Prop} (ht : c → A) (hf : ¬ c → B) : BV (decide c) A B :=
  ⟨fun h => ht (of_decide_eq_true h), fun h => hf (of_decide_eq_false h)⟩
theorem BV.dec_yes {c : Prop} [Decidable c] {A B : Prop} (hc : c) (ht : A) : BV (decide c) A B := .dec (fun _ => ht) (fun h => absurd hc h)
theorem BV.dec_no {c : Prop} [Decidable c] {A B : Prop} (hc : ¬ c) (ht : B) : BV (decide c) A B := .dec (fun h => absurd h hc) (fun _ => ht)
theorem BV.eq {x y : Int} {A B : Prop} (ht : x = y → A) (hf : x ≠ y → B) : BV (x == y) A B :=
  ⟨fun h => ht (by simpa using h), fun h => hf (by simpa using h)⟩
theorem BV.eq_yes {x y : Int} {A B : Prop} (hc : x = y) (h : A) : BV (x == y) A B := .eq (fun _ => h) (fun h => absurd hc h)
theorem BV.eq_no {x y : Int} {A B : Prop} (hc : x ≠ y) (h : B) : BV (x == y) A B := .eq (fun h => absurd h hc) (fun _ => h)
theorem BV.ne {x y : Int} {A B : Prop} (ht : x ≠ y → A) (hf : x = y → B) : BV (x != y) A B :=
  ⟨fun h => ht (by simpa using h), fun h => hf (by simpa using h)⟩
theorem BV.ne_yes {x y : Int} {A B : Prop} (hc : x ≠ y) (h : A) : BV (x != y) A B := .ne (fun _ => h) (fun h => absurd h hc)
theorem BV.ne_no {x y : Int} {A B : Prop} (hc : x = y) (h : B) : BV (x != y) A B := .ne (fun h => absurd hc h) (fun _ => h)

theorem BV.hf {t : Bool} {A B : Prop} : BV t A B → t = false → B | ⟨_, h⟩ => h
theorem BV.ht {t : Bool} {A B : Prop} : BV t A B → t = true → A | ⟨h, _⟩ => h
theorem BV.not {t : Bool} {A B : Prop} (h : BV t B A) : BV (!t) A B := ⟨fun e => h.hf (by simpa using e), fun e => h.ht (by simpa using e)⟩

/-- What must be, and what follows. -/
inductive Sure (c : Prop) (X : Prop) : Prop
  | mk (hc : c) (hx : X)

end Go.Sv
