/- Contracts used in place. -/
import Derived.Test.YtccofnngpijihaaGreatVc8
set_option linter.all false
namespace Go.Sv

theorem Ok.mid {F : List Ent} {w0 w : World} {c : Chunk} {A B : HL} : Ok F (A ++ c :: B) w0 w ↔ Ok (flat (A ++ B) ++ F) [c] w0 w :=
  have hp : (flat (A ++ c :: B) ++ F).Perm (flat [c] ++ (flat (A ++ B) ++ F)) := by
    simp only [flat_append, flat, List.append_assoc, List.append_nil]
    rw [← List.append_assoc, ← List.append_assoc c.ents (flat A)]
    exact List.Perm.append_right _ List.perm_append_comm
  ⟨fun h => h.perm hp, fun h => h.perm hp.symm⟩

/-- A contract over one piece, used in place. -/
theorem CallVC.at {P : Program} {f : FuncId} {args : List Value} {H : HL} {c c' : Chunk} {v : Value} {K : Value → HL → Prop} {E : List PanicEntry → HL → Prop} (hs : Spec P f args [c] (Gives v [c']))
    (hc : callable P f = true) (i : Nat) (h : nth H i = some c) (k : repK H i c' (K v)) : CallVC P f args H K E := by
  obtain ⟨A, B, rfl, hk⟩ := repK.out h k
  refine ⟨fun w vs => callable_run hc w vs, fun F w0 w hok => (hs _ w0 w (Ok.mid.1 hok)).mono fun en w' he => ?_⟩
  obtain ⟨o, H', rfl, hp, hok'⟩ := he
  cases o with
  | ret u =>
    obtain ⟨rfl, rfl⟩ := hp
    exact .inl ⟨_, _, rfl, hk, Ok.mid.2 hok'⟩
  | panic c => exact hp.elim

/-- The same, where what is there afterwards is one of several. -/
theorem CallVC.atE {P : Program} {f : FuncId} {args : List Value} {H : HL} {c : Chunk} {q : Value → HL → Prop} {K : Value → HL → Prop} {E : List PanicEntry → HL → Prop} (hs : Spec P f args [c] (Rets q))
    (hc : callable P f = true) (i : Nat) (h : nth H i = some c) (k : ∀ v A, q v A → ∃ c', A = [c'] ∧ repK H i c' (K v)) : CallVC P f args H K E := by
  refine ⟨fun w vs => callable_run hc w vs, fun F w0 w hok => ?_⟩
  have hm : c ∈ H := mem_of_nth h
  have hsp : ∃ A B, H = A ++ c :: B ∧ ∀ c' v, repK H i c' (K v) → K v (A ++ c' :: B) := by
    clear k hok hm
    induction H generalizing i K with
    | nil => simp [nth] at h
    | cons x H ih =>
      cases i with
      | zero => simp [nth] at h; subst h; exact ⟨[], H, rfl, fun _ _ hk => hk⟩
      | succ i =>
        obtain ⟨A, B, h1, h2⟩ := ih (K := fun v H' => K v (x :: H')) i (by simpa [nth] using h)
        exact ⟨x :: A, B, by rw [h1]; rfl, fun c' v hk => h2 c' v hk⟩
  obtain ⟨A, B, rfl, hback⟩ := hsp
  refine (hs _ w0 w (Ok.mid.1 hok)).mono fun en w' he => ?_
  obtain ⟨o, H', rfl, hp, hok'⟩ := he
  cases o with
  | ret u =>
    obtain ⟨c', rfl, hk⟩ := k u H' hp
    exact .inl ⟨_, _, rfl, hback c' u hk, Ok.mid.2 hok'⟩
  | panic c => exact hp.elim

/-- Of some slots, what they hold. -/
def keep (ρ : Env) : List Nat → Env
  | [] => []
  | s :: l => match look ρ s with
    | some v => (s, v) :: keep ρ l
    | none => keep ρ l

theorem SubE.keep (ρ : Env) : ∀ l : List Nat, SubE (keep ρ l) ρ := by
  intro l
  induction l with
  | nil => exact trivial
  | cons s l ih =>
    unfold Go.Sv.keep
    split
    · rename_i v h; exact ⟨h, ih⟩
    · exact ih

theorem SubE.app {A B ρ : Env} (ha : SubE A ρ) (hb : SubE B ρ) : SubE (A ++ B) ρ := by
  induction A with
  | nil => exact hb
  | cons x A ih => obtain ⟨s, v⟩ := x; exact ⟨ha.1, ih ha.2⟩

theorem Take.all (H : HL) : Take H H [] := by
  induction H with
  | nil => exact .nil _
  | cons c H ih => exact .cons (.here _ _) ih

/-- A loop that is left in its first round. -/
theorem LoopVC.first {V : (Exit → Env → HL → Prop) → Env → HL → Prop} {Q : Exit → Env → HL → Prop} {ρ : Env} {H : HL} (slots : List Nat)
    (h : frc (keep ρ slots) fun κ => V (fun e ρ' H' => match e with
        | .normal => Again (fun _ : Unit => κ) (fun _ => H) (fun _ => True) (fun _ => 0) 0 ρ' H'
        | e => appL H' [] (Q e ρ')) κ H) : LoopVC V Q ρ H := by
  rw [frc_eq] at h
  exact .mk (ι := Unit) (fun _ => keep ρ slots) (fun _ => H) (fun _ => True) (fun _ => 0) () [] trivial (SubE.keep ρ slots) (Take.all H) fun _ _ => h

/-- A loop: the slots that change, those that stay. -/
theorem LoopVC.iter {V : (Exit → Env → HL → Prop) → Env → HL → Prop} {Q : Exit → Env → HL → Prop} {ρ : Env} {H : HL} (slots : List Nat) {ι : Type} (ch : ι → Env) (Hs : ι → HL) (Inv : ι → Prop) (μ : ι → Nat) (i₀ : ι) (R : HL)
    (h₀ : Inv i₀) (hs : SubE (ch i₀) ρ) (ht : Take (Hs i₀) H R)
    (round : frc (keep ρ slots) fun κ => ∀ i, Inv i → V (fun e ρ' H' => match e with
        | .normal => Again (fun i => ch i ++ κ) Hs Inv μ (μ i) ρ' H'
        | e => appL H' R (Q e ρ')) (ch i ++ κ) (Hs i)) : LoopVC V Q ρ H := by
  rw [frc_eq] at round
  exact .mk (fun i => ch i ++ keep ρ slots) Hs Inv μ i₀ R h₀ (SubE.app hs (SubE.keep ρ slots)) ht round

/-! The same contracts, the pieces found ahead of all else. -/
theorem CallVC.g {P : Program} {f : FuncId} {args : List Value} {pre H R A : HL} {v : Value} {K : Value → HL → Prop} {E : List PanicEntry → HL → Prop} (t : Take pre H R) (hs : Spec P f args pre (Gives v A))
    (hc : callable P f = true) (k : appL A R (K v)) : CallVC P f args H K E := CallVC.gives hs hc t k
theorem CallVC.r {P : Program} {f : FuncId} {args : List Value} {pre H R : HL} {q : Value → HL → Prop} {K : Value → HL → Prop} {E : List PanicEntry → HL → Prop} (t : Take pre H R) (hs : Spec P f args pre (Rets q))
    (hc : callable P f = true) (k : ∀ v A, q v A → appL A R (K v)) : CallVC P f args H K E := CallVC.rets hs hc t k
theorem CallVC.a {P : Program} {f : FuncId} {args : List Value} {H : HL} {c c' : Chunk} {v : Value} {K : Value → HL → Prop} {E : List PanicEntry → HL → Prop} (i : Nat) (h : nth H i = some c) (hs : Spec P f args [c] (Gives v [c']))
    (hc : callable P f = true) (k : repK H i c' (K v)) : CallVC P f args H K E := CallVC.at hs hc i h k

theorem Arith.u8m {e : Int} {K : Value → Prop} (h : K (.int .u8 (e % 256))) : Arith .u8 e K :=
  ⟨by have : IntKind.u8.wrap e = e % 256 := by simp [IntKind.wrap, IntKind.bits, IntKind.signed]
      rw [this]; exact h⟩
theorem Arith.u16m {e : Int} {K : Value → Prop} (h : K (.int .u16 (e % 65536))) : Arith .u16 e K :=
  ⟨by have : IntKind.u16.wrap e = e % 65536 := by simp [IntKind.wrap, IntKind.bits, IntKind.signed]
      rw [this]; exact h⟩
theorem Arith.u32m {e : Int} {K : Value → Prop} (h : K (.int .u32 (e % 4294967296))) : Arith .u32 e K :=
  ⟨by have : IntKind.u32.wrap e = e % 4294967296 := by simp [IntKind.wrap, IntKind.bits, IntKind.signed]
      rw [this]; exact h⟩

end Go.Sv
