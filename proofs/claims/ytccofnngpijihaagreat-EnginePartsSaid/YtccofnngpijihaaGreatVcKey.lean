/- Keys of maps: numbers, structs of numbers. -/
import Derived.Test.YtccofnngpijihaaGreatVcMap
import Derived.DeepKeys4
set_option linter.all false
namespace Go.Sv
open Go.Maps (Keyed)
set_option linter.unusedSectionVars false
set_option linter.unusedVariables false

/-- Fields that are numbers, one cell each. -/
def flatFs (P : Program) : Nat → List Field → List IntKind → Bool
  | _, [], [] => true
  | j, f :: fs, k :: ks => Nat.beq f.offset j && (f.name != "_") && Nat.beq (P.cellsOf f.type) 1 && (match P.underlying f.type with | some (.int k') => sameK k' k | _ => false) && flatFs P (j + 1) fs ks
  | _, _, _ => false

def flatKey (P : Program) (kt : TypeId) (ks : List IntKind) : Bool :=
  match P.underlying kt with
  | some (.struct fs) => flatFs P 0 fs.toList ks && Nat.beq (P.cellsOf kt) ks.length && P.keyType kt && P.keyTypeAt 2 kt && laidOutB P && Nat.ble (kt + 1) P.types.size
  | _ => false

def intsV : List IntKind → List Int → List Value
  | k :: ks, n :: ns => .int k n :: intsV ks ns
  | _, _ => []

def allWf : List IntKind → List Int → Prop
  | k :: ks, n :: ns => (Lit.int k n).wf = true ∧ allWf ks ns
  | [], [] => True
  | _, _ => False

theorem intsV_len : ∀ {ks : List IntKind} {ns : List Int}, allWf ks ns → (intsV ks ns).length = ks.length
  | [], [], _ => rfl
  | k :: ks, n :: ns, h => by simp [intsV, intsV_len h.2]
  | [], _ :: _, h => h.elim
  | _ :: _, [], h => h.elim

theorem flat_lits {P : Program} {d : Nat} : ∀ (fs : List Field) (ks : List IntKind) (ns : List Int) (j : Nat) (pre : List Value), flatFs P j fs ks = true → allWf ks ns → pre.length = j →
    ∃ ls, (fs.mapM fun f => P.keyLits (d + 1) f.type (((pre ++ intsV ks ns).drop f.offset).take (P.cellsOf f.type))) = some ls := by
  intro fs
  induction fs with
  | nil => intro ks ns j pre _ _ _; exact ⟨[], rfl⟩
  | cons f fs ih =>
    intro ks ns j pre h hw hp
    cases ks with
    | nil => simp [flatFs] at h
    | cons k ks =>
      cases ns with
      | nil => exact hw.elim
      | cons n ns =>
        simp only [flatFs, Bool.and_eq_true] at h
        obtain ⟨⟨⟨⟨h1, h2⟩, h3⟩, h4⟩, h5⟩ := h
        have h1 := Nat.eq_of_beq_eq_true h1
        have h3 := Nat.eq_of_beq_eq_true h3
        split at h4
        case h_2 => cases h4
        rename_i k' hk
        have h4 := sameK_eq h4
        subst h4
        obtain ⟨ls, hls⟩ := ih ks ns (j + 1) (pre ++ [.int k' n]) h5 hw.2 (by simp [hp])
        have e : pre ++ [Value.int k' n] ++ intsV ks ns = pre ++ intsV (k' :: ks) (n :: ns) := by simp [intsV]
        rw [e] at hls
        refine ⟨[Lit.int k' n] :: ls, ?_⟩
        have hd : ((pre ++ intsV (k' :: ks) (n :: ns)).drop f.offset).take (P.cellsOf f.type) = [.int k' n] := by
          rw [h1, h3, ← hp]; simp [intsV]
        rw [List.mapM_cons, hls, hd]
        simp [Program.keyLits, hk, hw.1]

theorem KeyK.flat {P : Program} {kt : TypeId} {ks : List IntKind} {K : Type} {f : K → List Int} (h : flatKey P kt ks = true) (hi : ∀ a b, intsV ks (f a) = intsV ks (f b) → a = b) :
    KeyK P kt (fun a => .agg (intsV ks (f a)).toArray) (fun a => allWf ks (f a)) := by
  unfold flatKey at h
  split at h
  case h_2 => cases h
  rename_i fs hu
  simp only [Bool.and_eq_true] at h
  obtain ⟨⟨⟨⟨⟨h1, h2⟩, h3⟩, h4⟩, h5⟩, h6⟩ := h
  have h2 := Nat.eq_of_beq_eq_true h2
  have h6 := Nat.le_of_ble_eq_true h6
  refine ⟨Keyed.of_law (deep_law_laid h5 (m := 2) (by decide) (Nat.lt_of_succ_le h6) h4 (by rw [hu])), ?_, ?_⟩
  · intro a ha
    obtain ⟨ls, hls⟩ := flat_lits (d := P.types.size - 1) fs.toList ks (f a) 0 [] h1 ha rfl
    have hsz : P.types.size - 1 + 1 = P.types.size := by omega
    rw [hsz] at hls
    have hlen := intsV_len ha
    have hf : (Value.agg (intsV ks (f a)).toArray).formed P kt = true := by
      simp [Value.formed, hu, hlen, h2]
    have hname : fs.all (fun x => x.name != "_") = true := by
      have key : ∀ (l : List Field) (ks : List IntKind) (j : Nat), flatFs P j l ks = true → l.all (fun x => x.name != "_") = true := by
        intro l
        induction l with
        | nil => intro _ _ _; rfl
        | cons x l ih =>
          intro ks j h
          cases ks with
          | nil => simp [flatFs] at h
          | cons k ks =>
            simp only [flatFs, Bool.and_eq_true] at h
            simp only [List.all_cons, Bool.and_eq_true]
            exact ⟨h.1.1.1.2, ih ks _ h.2⟩
      rw [← Array.all_toList]; exact key _ _ _ h1
    refine ⟨.string (keyBytes ls.flatten), ?_⟩
    simp only [keyOf, hu, h3, hf, Bool.and_self, if_true]
    have : P.keyLits (P.types.size + 1) kt (Value.agg (intsV ks (f a)).toArray).cells.toList = some ls.flatten := by
      unfold Program.keyLits
      simp only [hu, Value.cells]
      rw [if_pos ⟨by simp [hlen, h2], hname⟩]
      simp only [List.nil_append] at hls
      rw [hls]; rfl
    rw [this]; rfl
  · intro a b e
    injection e with e
    exact hi a b (by simpa using congrArg Array.toList e)

theorem intsV_inj : ∀ {ks : List IntKind} {a b : List Int}, a.length = ks.length → b.length = ks.length → intsV ks a = intsV ks b → a = b := by
  intro ks
  induction ks with
  | nil => intro a b ha hb _; cases a <;> cases b <;> simp_all
  | cons k ks ih =>
    intro a b ha hb h
    cases a with
    | nil => simp at ha
    | cons x a =>
      cases b with
      | nil => simp at hb
      | cons y b =>
        simp only [intsV, List.cons.injEq, Value.int.injEq, true_and] at h
        rw [h.1, ih (by simpa using ha) (by simpa using hb) h.2]

/-- int -/
theorem KeyK.i64 {P : Program} {kt : TypeId} (h : P.underlying kt = some (.int .i64)) : KeyK P kt (fun a : Int => .int .i64 a) (fun a => (Lit.int .i64 a).wf = true) :=
  ⟨Maps.int_keyed h, fun a ha => ⟨_, Maps.keyOf_int_mk h ha⟩, fun a b e => by simpa using e⟩

theorem KeyK.str {P : Program} {kt : TypeId} (h : P.underlying kt = some .string) : KeyK P kt (fun a : ByteArray => .string a) (fun a => a.size ≤ maxLen) :=
  ⟨Maps.string_keyed h, fun a ha => ⟨_, WideMaps.keyOf_string_mk h ha⟩, fun a b e => by simpa using e⟩
end Go.Sv
