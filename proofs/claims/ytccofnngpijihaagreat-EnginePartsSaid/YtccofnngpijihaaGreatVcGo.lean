/- Short names for the steps of a walk. -/
import Derived.Test.YtccofnngpijihaaGreatVcMap2
set_option linter.all false
namespace Go.Sv
set_option linter.unusedVariables false

theorem Load1.there {H : HL} {c : Chunk} {b off : Nat} {K : Value → Prop} : Load1 H b off K → Load1 (c :: H) b off K
  | ⟨arr, T, m, v, hm, hv, k⟩ => ⟨arr, T, m, v, List.mem_cons_of_mem _ hm, hv, k⟩
theorem LoadN.there {H : HL} {c : Chunk} {b off n : Nat} {K : Value → Prop} : LoadN H b off n K → LoadN (c :: H) b off n K
  | ⟨arr, T, m, vs, hm, hv, hl, k⟩ => ⟨arr, T, m, vs, List.mem_cons_of_mem _ hm, hv, hl, k⟩
theorem StoreN.there {H : HL} {c : Chunk} {b off : Nat} {vs : List Value} {K : HL → Prop} : StoreN H b off vs (fun H' => K (c :: H')) → StoreN (c :: H) b off vs K
  | ⟨A, B, arr, arr', T, m, hH, hs, hone, hfz, k⟩ => ⟨c :: A, B, arr, arr', T, m, by rw [hH]; rfl, hs, hone, hfz, k⟩
theorem Load1.here {H : HL} {b off : Nat} {K : Value → Prop} {arr : Array Value} {T : TypeId} {m : Nat × Nat} {v : Value} (hv : nth arr.toList off = some v) (k : K v) : Load1 (.one b (.cells arr T m) :: H) b off K := Load1.at 0 rfl hv k
theorem LoadN.here {H : HL} {b off n : Nat} {K : Value → Prop} {arr : Array Value} {T : TypeId} {m : Nat × Nat} {vs : List Value} (hv : cutL off n arr.toList = some vs) (k : frc vs fun vs => K (.agg vs.toArray)) : LoadN (.one b (.cells arr T m) :: H) b off n K := LoadN.at 0 rfl hv k
theorem StoreN.here {H : HL} {b off : Nat} {vs : List Value} {K : HL → Prop} {arr : Array Value} {T : TypeId} {l : List Value} (hs : setL arr.toList off vs = some l) (hone : vs.all one1 = true)
    (k : frc l fun l => K (.one b (.cells l.toArray T (0, 0)) :: H)) : StoreN (.one b (.cells arr T (0, 0)) :: H) b off vs K := StoreN.at 0 rfl hs hone k

theorem bY {A B : Prop} (h : A) : BV true A B := .yes h
theorem bN {A B : Prop} (h : B) : BV false A B := .no h
theorem dY {c : Prop} [Decidable c] {A B : Prop} (hc : c) (ht : A) : BV (decide c) A B := .dec_yes hc ht
theorem dN {c : Prop} [Decidable c] {A B : Prop} (hc : ¬ c) (ht : B) : BV (decide c) A B := .dec_no hc ht
theorem eY {x y : Int} {A B : Prop} (hc : x = y) (h : A) : BV (x == y) A B := .eq_yes hc h
theorem eN {x y : Int} {A B : Prop} (hc : x ≠ y) (h : B) : BV (x == y) A B := .eq_no hc h
theorem nY {x y : Int} {A B : Prop} (hc : x ≠ y) (h : A) : BV (x != y) A B := .ne_yes hc h
theorem nN {x y : Int} {A B : Prop} (hc : x = y) (h : B) : BV (x != y) A B := .ne_no hc h
theorem lH {H : HL} {b off : Nat} {K : Value → Prop} {arr : Array Value} {T : TypeId} {m : Nat × Nat} {v : Value} (hv : nth arr.toList off = some v) (k : K v) : Load1 (.one b (.cells arr T m) :: H) b off K := Load1.at 0 rfl hv k
theorem lT {H : HL} {c : Chunk} {b off : Nat} {K : Value → Prop} (h : Load1 H b off K) : Load1 (c :: H) b off K := h.there
theorem mH {H : HL} {b off n : Nat} {K : Value → Prop} {arr : Array Value} {T : TypeId} {m : Nat × Nat} {vs : List Value} (hv : cutL off n arr.toList = some vs) (k : frc vs fun vs => K (.agg vs.toArray)) : LoadN (.one b (.cells arr T m) :: H) b off n K := LoadN.at 0 rfl hv k
theorem mT {H : HL} {c : Chunk} {b off n : Nat} {K : Value → Prop} (h : LoadN H b off n K) : LoadN (c :: H) b off n K := h.there
theorem sH {H : HL} {b off : Nat} {vs : List Value} {K : HL → Prop} {arr : Array Value} {T : TypeId} {l : List Value} (hs : setL arr.toList off vs = some l) (hone : vs.all one1 = true)
    (k : frc l fun l => K (.one b (.cells l.toArray T (0, 0)) :: H)) : StoreN (.one b (.cells arr T (0, 0)) :: H) b off vs K := StoreN.at 0 rfl hs hone k
theorem sT {H : HL} {c : Chunk} {b off : Nat} {vs : List Value} {K : HL → Prop} (h : StoreN H b off vs (fun H' => K (c :: H'))) : StoreN (c :: H) b off vs K := h.there
theorem sU {c X : Prop} (hc : c) (hx : X) : Sure c X := ⟨hc, hx⟩
theorem nV {l : List Value} {n : Nat} {K : Value → Prop} {v : Value} (hv : nth l n = some v) (k : K v) : NthVC l n K := ⟨v, hv, k⟩
theorem cV {l : List Value} {k n : Nat} {K : List Value → Prop} {vs : List Value} (hv : cutL k n l = some vs) (h : frc vs K) : CutVC l k n K := ⟨vs, hv, h⟩
theorem aI {e : Int} {K : Value → Prop} (h1 : -9223372036854775808 ≤ e) (h2 : e ≤ 9223372036854775807) (h : K (.int .i64 e)) : Arith .i64 e K := .i64 h1 h2 h
theorem aW {e : Int} {K : Value → Prop} (h1 : 0 ≤ e) (h2 : e ≤ 4294967295) (h : K (.int .u32 e)) : Arith .u32 e K := .u32 h1 h2 h
theorem aB {e : Int} {K : Value → Prop} (h1 : 0 ≤ e) (h2 : e ≤ 255) (h : K (.int .u8 e)) : Arith .u8 e K := .u8 h1 h2 h
theorem bO {A B : Prop} (ha : A) (hb : B) : Both A B := ⟨ha, hb⟩
theorem jT {Va : (Exit → Env → HL → Prop) → Env → HL → Prop} {Vb : Env → HL → Prop} {Q : Exit → Env → HL → Prop} {ρ : Env} {H : HL}
    (h : Va (fun e ρ H => match e with | .normal => Vb ρ H | e => Q e ρ H) ρ H) : JoinVC Va Vb Q ρ H := .thru h
theorem zH (c : Chunk) (H : HL) : Rem c (c :: H) H := .here c H
theorem zN (H : HL) : Rem (.many []) H H := .none H
theorem zT {c d : Chunk} {H R : HL} (h : Rem c H R) : Rem c (d :: H) (d :: R) := .there h
theorem zE (H : HL) : Take [] H H := .nil H
theorem zC {c : Chunk} {A H H1 R : HL} (h : Rem c H H1) (t : Take A H1 R) : Take (c :: A) H R := .cons h t
theorem l1 {H : HL} {b off : Nat} {K : Value → Prop} (i : Nat) {arr : Array Value} {T : TypeId} {m : Nat × Nat} {v : Value} (h : nth H i = some (.one b (.cells arr T m))) (hv : nth arr.toList off = some v) (k : K v) : Load1 H b off K := Load1.at i h hv k
theorem l2 {H : HL} {b off n : Nat} {K : Value → Prop} (i : Nat) {arr : Array Value} {T : TypeId} {m : Nat × Nat} {vs : List Value} (h : nth H i = some (.one b (.cells arr T m)))
    (hv : cutL off n arr.toList = some vs) (k : frc vs fun vs => K (.agg vs.toArray)) : LoadN H b off n K := LoadN.at i h hv k
theorem l3 {H : HL} {b off : Nat} {vs : List Value} {K : HL → Prop} (i : Nat) {arr : Array Value} {T : TypeId} {l : List Value} (h : nth H i = some (.one b (.cells arr T (0, 0))))
    (hs : setL arr.toList off vs = some l) (hone : vs.all one1 = true) (k : frc l fun l => repK H i (.one b (.cells l.toArray T (0, 0))) K) : StoreN H b off vs K := StoreN.at i h hs hone k
/-- Of a piece in the midst, by its place. -/
theorem RawRd.there {P : Program} {s : Sem Value} {H : HL} {c : Chunk} {K : Value → Prop} : RawRd P s H K → RawRd P s (c :: H) K
  | ⟨v, h, k⟩ => ⟨v, fun F w0 w hk => h (c.ents ++ F) w0 w (hk.perm (by simp only [flat, List.append_assoc]; rw [← List.append_assoc, ← List.append_assoc]; exact List.perm_append_comm.append_right _)), k⟩

/-- What is left, as one piece. -/
theorem Spec.pack {P : Program} {f : FuncId} {args : List Value} {pre : HL} {q : Value → List Ent → Prop} (h : Spec P f args pre (Rets fun v A => q v (flat A))) : Spec P f args pre (Rets fun v A => ∃ T, A = [.many T] ∧ q v T) := by
  intro F w0 w hok
  refine (h F w0 w hok).mono fun e w' he => ?_
  obtain ⟨o, A, he, hp, hok'⟩ := he
  cases o with
  | panic c => exact hp.elim
  | ret v => exact ⟨.ret v, [.many (flat A)], he, ⟨_, rfl, hp⟩, hok'.perm (by simp)⟩
theorem tY {t : Bool} {A B : Prop} (ht : t = true) (h : A) : BV t A B := ⟨fun _ => h, fun e => nomatch ht.symm.trans e⟩
theorem tN {t : Bool} {A B : Prop} (ht : t = false) (h : B) : BV t A B := ⟨fun e => (nomatch ht.symm.trans e), fun _ => h⟩
section
variable {K : Type} [DecidableEq K] {enc : K → Value} {dom : K → Prop} {P : Program} {kt : TypeId}
theorem RawRd.lookS {t et : TypeId} {H : HL} {k : Value → Prop} {L : List (K × Value)} {bs : List Nat} {clock : Nat} {m : Nat} {o : Obj} {z v : Value} {c : Bool} (KK : KeyK P kt enc dom) (ht : mapTy P t kt et = true) (hz : zeroIs P et z)
    (R : MapR enc dom L bs clock o) (i : Nat) (hm : nth H i = some (.one m o)) (a : K) (ha : dom a) (hg : get L a = some v) (h : k (lookV c z (some v))) : RawRd P (Instr.lookup t (.map (some m)) (enc a) c) H k :=
  RawRd.look KK ht hz R i hm a ha (by rw [hg]; exact h)
theorem RawRd.lookZ {t et : TypeId} {H : HL} {k : Value → Prop} {L : List (K × Value)} {bs : List Nat} {clock : Nat} {m : Nat} {o : Obj} {z : Value} {c : Bool} (KK : KeyK P kt enc dom) (ht : mapTy P t kt et = true) (hz : zeroIs P et z)
    (R : MapR enc dom L bs clock o) (i : Nat) (hm : nth H i = some (.one m o)) (a : K) (ha : dom a) (hg : get L a = none) (h : k (lookV c z none)) : RawRd P (Instr.lookup t (.map (some m)) (enc a) c) H k :=
  RawRd.look KK ht hz R i hm a ha (by rw [hg]; exact h)
end
end Go.Sv
