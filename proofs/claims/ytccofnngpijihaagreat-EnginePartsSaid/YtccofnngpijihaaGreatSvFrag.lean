/- Datagrams that come in parts. -/
import Derived.Test.YtccofnngpijihaaGreatVcMap2
import Derived.Test.YtccofnngpijihaaGreatSvNew
import Derived.Test.YtccofnngpijihaaGreatSvCod
import Derived.Test.YtccofnngpijihaaGreatProg
set_option linter.all false
namespace Go.Sv
open Go.Proofs
set_option maxRecDepth 100000
set_option maxHeartbeats 20000000
set_option linter.unusedVariables false

/-- A datagram's name. -/
structure DKey where
  (src dst proto id : Int)
  deriving DecidableEq
def dkV (k : DKey) : Value := .agg (intsV [.u32, .u32, .i64, .i64] [k.src, k.dst, k.proto, k.id]).toArray
abbrev dkOk (k : DKey) : Prop := allWf [.u32, .u32, .i64, .i64] [k.src, k.dst, k.proto, k.id]
theorem dkK : KeyK Tryz.prog 168 dkV dkOk := KeyK.flat (f := fun k : DKey => [k.src, k.dst, k.proto, k.id]) (by decide +kernel) (fun a b h => by
  have := intsV_inj (by rfl) (by rfl) h
  simp only [List.cons.injEq, and_true] at this
  obtain ⟨h1, h2, h3, h4⟩ := this
  cases a; cases b; simp_all)

abbrev iV (a : Int) : Value := .int .i64 a
abbrev iOk (a : Int) : Prop := (Lit.int .i64 a).wf = true
theorem iK : KeyK Tryz.prog 3 iV iOk := KeyK.i64 Tryz.underlying3
theorem iOk_of {a : Int} (h0 : -9223372036854775808 ≤ a) (h1 : a ≤ 9223372036854775807) : iOk a := by
  simp only [iOk, Lit.wf, IntKind.min, IntKind.max, IntKind.signed, IntKind.bits]; simp; omega

/-- What came of a datagram. -/
structure DEnt where
  bytes : List (Int × UInt8)
  (all age : Int)

def u8s (l : List (Int × UInt8)) : List (Int × Value) := l.map fun p => (p.1, u8v p.2)

/-- A map from places to bytes. -/
def ByR (m : Nat) (l : List (Int × UInt8)) (T : List Ent) : Prop := ∃ bs clk o, MapR iV iOk (u8s l) bs clk o ∧ T = [(m, o)]

def DEntR (b : Nat) (x : DEnt) (T : List Ent) : Prop := ∃ m U, ByR m x.bytes U ∧ T = (b, .cells #[.map (some m), i64 x.all, i64 x.age] 171 (0, 0)) :: U

theorem u8s_filter (l : List (Int × UInt8)) (q : Int → Bool) : (u8s l).filter (fun p => q p.1) = u8s (l.filter fun p => q p.1) := by
  unfold u8s; rw [List.filter_map]; rfl
theorem u8s_keys (l : List (Int × UInt8)) : (u8s l).map Prod.fst = l.map Prod.fst := by simp [u8s]

theorem trim_spec (x m : Nat) (all age : Int) (l : List (Int × UInt8)) (bs : List Nat) (clk : Nat) (o : Obj) (R : MapR iV iOk (u8s l) bs clk o) :
    Spec Tryz.prog 83 [ptr x] [.one x (.cells #[.map (some m), i64 all, i64 age] 171 (0, 0)), .one m o]
      (Rets fun _ A => ∃ bs' o', MapR iV iOk (u8s (l.filter fun p => decide (p.1 < all))) bs' clk o' ∧ A = [.one x (.cells #[.map (some m), i64 all, i64 age] 171 (0, 0)), .one m o']) := by
  refine spec_of Tryz.func83 (by decide +kernel) (Nat.le_of_ble_eq_true rfl) ?_
  conv => whnf
  (conv => whnf) <;> repeat' ((first | (show RawVC _ _ _ _ _; refine RawVC.rng (kt := 3) (et := 5) (by decide +kernel) R 0 rfl ?_; intro r it I) | (show RawVC _ _ _ _ _; refine RawVC.rng (kt := 3) (et := 5) (by decide +kernel) R 1 rfl ?_; intro r it I) | (show RawVC _ _ _ _ _; refine RawVC.rng (kt := 3) (et := 5) (by decide +kernel) R 2 rfl ?_; intro r it I) | (show RawVC _ _ _ _ _; refine RawVC.rng (kt := 3) (et := 5) (by decide +kernel) R 3 rfl ?_; intro r it I) | (show RawVC _ _ _ _ _; refine RawVC.rng (kt := 3) (et := 5) (by decide +kernel) R 4 rfl ?_; intro r it I) | (show RawVC _ _ _ _ _; refine RawVC.rng (kt := 3) (et := 5) (by decide +kernel) R 5 rfl ?_; intro r it I) | (show RawVC _ _ _ _ _; refine RawVC.rng (kt := 3) (et := 5) (by decide +kernel) R 6 rfl ?_; intro r it I) | (show RawVC _ _ _ _ _; refine RawVC.rng (kt := 3) (et := 5) (by decide +kernel) R 7 rfl ?_; intro r it I) | with_reducible refine bY ?_ | with_reducible refine bN ?_ | refine l1 0 rfl rfl ?_ | refine l1 1 rfl rfl ?_ | refine l1 2 rfl rfl ?_ | refine l1 3 rfl rfl ?_ | refine l1 4 rfl rfl ?_ | refine l1 5 rfl rfl ?_ | refine l1 6 rfl rfl ?_ | refine l1 7 rfl rfl ?_ | refine l1 8 rfl rfl ?_ | refine l1 9 rfl rfl ?_ | refine l1 10 rfl rfl ?_ | refine l1 11 rfl rfl ?_ | refine l1 12 rfl rfl ?_ | refine l1 13 rfl rfl ?_ | refine l2 0 rfl rfl ?_ | refine l2 1 rfl rfl ?_ | refine l2 2 rfl rfl ?_ | refine l2 3 rfl rfl ?_ | refine l2 4 rfl rfl ?_ | refine l2 5 rfl rfl ?_ | refine l2 6 rfl rfl ?_ | refine l2 7 rfl rfl ?_ | refine l2 8 rfl rfl ?_ | refine l2 9 rfl rfl ?_ | refine l2 10 rfl rfl ?_ | refine l2 11 rfl rfl ?_ | refine l2 12 rfl rfl ?_ | refine l2 13 rfl rfl ?_ | refine l3 0 rfl rfl rfl ?_ | refine l3 1 rfl rfl rfl ?_ | refine l3 2 rfl rfl rfl ?_ | refine l3 3 rfl rfl rfl ?_ | refine l3 4 rfl rfl rfl ?_ | refine l3 5 rfl rfl rfl ?_ | refine l3 6 rfl rfl rfl ?_ | refine l3 7 rfl rfl rfl ?_ | refine l3 8 rfl rfl rfl ?_ | refine l3 9 rfl rfl rfl ?_ | refine l3 10 rfl rfl rfl ?_ | refine l3 11 rfl rfl rfl ?_ | refine l3 12 rfl rfl rfl ?_ | refine l3 13 rfl rfl rfl ?_ | refine dY (by omega) ?_ | refine dN (by omega) ?_ | refine eY (by omega) ?_ | refine eN (by omega) ?_ | refine nY (by omega) ?_ | refine nN (by omega) ?_ | refine BV.not ?_ | refine tY (by assumption) ?_ | refine tN (by assumption) ?_ | refine dY (by assumption) ?_ | refine dN (by assumption) ?_ | refine sU (by omega) ?_ | refine aI (by omega) (by omega) ?_ | refine aW (by omega) (by omega) ?_ | refine aB (by omega) (by omega) ?_ | refine nV rfl ?_ | refine cV rfl ?_ | refine .nn (by omega) ?_ | refine appLI ?_ | refine bO ?_ ?_ | intro b | refine BV.dec (fun hq => ?_) (fun hq => ?_) | refine BV.eq (fun hq => ?_) (fun hq => ?_) | refine BV.ne (fun hq => ?_) (fun hq => ?_) | refine BV.mk (fun hq => ?_) (fun hq => ?_)) <;> (conv => whnf))
  refine LoopVC.iter [0, 7] (fun _ : List Int × List Nat × Obj × Obj => []) (fun i => [.one x (.cells #[.map (some m), i64 all, i64 age] 171 (0, 0)), .one m i.2.2.1, .one r i.2.2.2])
    (fun i => MapR iV iOk ((u8s l).filter fun p => !(decide (p.1 ∈ i.1) && decide (all ≤ p.1))) i.2.1 clk i.2.2.1 ∧ IterR ((u8s l).filter fun p => !(decide (p.1 ∈ i.1) && decide (all ≤ p.1))) i.2.1 clk m i.1 none i.2.2.2)
    (fun i => leftN (u8s l) i.1) ([], bs, o, it) _ ⟨by rw [List.filter_eq_self.2 (by simp)]; exact R, by rw [List.filter_eq_self.2 (by simp)]; exact I⟩ (by repeat' (first | exact trivial | rfl | refine ⟨?_, ?_⟩)) (by (repeat (apply zC; · repeat (first | exact zH _ _ | exact zN _ | apply zT))); exact zE _) ?_
  conv => whnf
  rintro ⟨S, bs', o', it'⟩ ⟨R', I'⟩
  simp only at R' I' ⊢
  have hnd : ((u8s l).map Prod.fst).Nodup := R.apart
  (conv => whnf) <;> repeat' ((first | (show RawVC _ _ _ _ _; refine RawVC.nxt R' I' 2 rfl 1 rfl (fun hall => ?_) (fun p hp hs it2 I2 => ?_)) | (show RawRd _ _ _ _; refine RawRd.entry R' I2 2 rfl 1 rfl ?_) | (show RawVC _ (builtin Builtin.delete _ _ _ _) _ _ _; refine RawVC.mdel (et := 5) iK (by decide +kernel) R' 1 rfl p.1 (R'.keys p hp) (fun bs2 o2 R2 hsub hz => ?_)) | with_reducible refine bY ?_ | with_reducible refine bN ?_ | refine l1 0 rfl rfl ?_ | refine l1 1 rfl rfl ?_ | refine l1 2 rfl rfl ?_ | refine l1 3 rfl rfl ?_ | refine l1 4 rfl rfl ?_ | refine l1 5 rfl rfl ?_ | refine l1 6 rfl rfl ?_ | refine l1 7 rfl rfl ?_ | refine l1 8 rfl rfl ?_ | refine l1 9 rfl rfl ?_ | refine l1 10 rfl rfl ?_ | refine l1 11 rfl rfl ?_ | refine l1 12 rfl rfl ?_ | refine l1 13 rfl rfl ?_ | refine l2 0 rfl rfl ?_ | refine l2 1 rfl rfl ?_ | refine l2 2 rfl rfl ?_ | refine l2 3 rfl rfl ?_ | refine l2 4 rfl rfl ?_ | refine l2 5 rfl rfl ?_ | refine l2 6 rfl rfl ?_ | refine l2 7 rfl rfl ?_ | refine l2 8 rfl rfl ?_ | refine l2 9 rfl rfl ?_ | refine l2 10 rfl rfl ?_ | refine l2 11 rfl rfl ?_ | refine l2 12 rfl rfl ?_ | refine l2 13 rfl rfl ?_ | refine l3 0 rfl rfl rfl ?_ | refine l3 1 rfl rfl rfl ?_ | refine l3 2 rfl rfl rfl ?_ | refine l3 3 rfl rfl rfl ?_ | refine l3 4 rfl rfl rfl ?_ | refine l3 5 rfl rfl rfl ?_ | refine l3 6 rfl rfl rfl ?_ | refine l3 7 rfl rfl rfl ?_ | refine l3 8 rfl rfl rfl ?_ | refine l3 9 rfl rfl rfl ?_ | refine l3 10 rfl rfl rfl ?_ | refine l3 11 rfl rfl rfl ?_ | refine l3 12 rfl rfl rfl ?_ | refine l3 13 rfl rfl rfl ?_ | refine dY (by omega) ?_ | refine dN (by omega) ?_ | refine eY (by omega) ?_ | refine eN (by omega) ?_ | refine nY (by omega) ?_ | refine nN (by omega) ?_ | refine BV.not ?_ | refine tY (by assumption) ?_ | refine tN (by assumption) ?_ | refine dY (by assumption) ?_ | refine dN (by assumption) ?_ | refine sU (by omega) ?_ | refine aI (by omega) (by omega) ?_ | refine aW (by omega) (by omega) ?_ | refine aB (by omega) (by omega) ?_ | refine nV rfl ?_ | refine cV rfl ?_ | refine .nn (by omega) ?_ | refine appLI ?_ | refine bO ?_ ?_ | intro b | refine BV.dec (fun hq => ?_) (fun hq => ?_) | refine BV.eq (fun hq => ?_) (fun hq => ?_) | refine BV.ne (fun hq => ?_) (fun hq => ?_) | refine BV.mk (fun hq => ?_) (fun hq => ?_)) <;> (conv => whnf))
  · refine ⟨_, _, (by (repeat (apply zC; · repeat (first | exact zH _ _ | exact zN _ | apply zT))); exact zE _), bs', o', ?_, rfl⟩
    rw [← u8s_filter l (fun k => decide (k < all))]
    have e : (u8s l).filter (fun p => decide (p.1 < all)) = (u8s l).filter fun p => !(decide (p.1 ∈ S) && decide (all ≤ p.1)) := by
      apply List.filter_congr
      intro p hp
      by_cases h1 : all ≤ p.1
      · have : ¬ p.1 < all := by omega
        by_cases h2 : p.1 ∈ S
        · simp [h1, h2, this]
        · exact absurd (hall p (List.mem_filter.2 ⟨hp, by simp [h2]⟩)) h2
      · have : p.1 < all := by omega
        simp [h1, this]
    rw [e]; exact R'
  · have hpl := (List.mem_filter.1 hp).1
    have e : Sv.del ((u8s l).filter fun p => !(decide (p.1 ∈ S) && decide (all ≤ p.1))) p.1 = (u8s l).filter fun q => !(decide (q.1 ∈ p.1 :: S) && decide (all ≤ q.1)) := by
      rw [del_filter hnd]
      apply List.filter_congr
      intro q _
      by_cases h1 : q.1 = p.1
      · simp [h1]; omega
      · simp [h1]

    rw [e] at R2 hz
    exact ⟨(p.1 :: S, bs2, o2, it2), _, leftN_lt hpl hs, ⟨R2, I2.sub hsub hz⟩, (by repeat' (first | exact trivial | rfl | refine ⟨?_, ?_⟩)), (by (repeat (apply zC; · repeat (first | exact zH _ _ | exact zN _ | apply zT))); exact zE _)⟩
  · have hpl := (List.mem_filter.1 hp).1
    have e : ((u8s l).filter fun p => !(decide (p.1 ∈ S) && decide (all ≤ p.1))) = (u8s l).filter fun q => !(decide (q.1 ∈ p.1 :: S) && decide (all ≤ q.1)) := by
      apply List.filter_congr
      intro q _
      by_cases h1 : q.1 = p.1
      · have : ¬ all ≤ q.1 := by omega
        simp [this]
      · simp [h1]
    rw [e] at R' I2
    exact ⟨(p.1 :: S, bs', o', it2), _, leftN_lt hpl hs, ⟨R', I2.forget⟩, (by repeat' (first | exact trivial | rfl | refine ⟨?_, ?_⟩)), (by (repeat (apply zC; · repeat (first | exact zH _ _ | exact zN _ | apply zT))); exact zE _)⟩

theorem u8s_get (l : List (Int × UInt8)) (a : Int) : get (u8s l) a = (get l a).map u8v := map_get u8v l a
theorem u8s_put (l : List (Int × UInt8)) (a : Int) (c : UInt8) : put (u8s l) a (u8v c) = u8s (put l a c) := (map_put u8v l a c).symm
theorem u8s_del (l : List (Int × UInt8)) (a : Int) : del (u8s l) a = u8s (del l a) := (map_del u8v l a).symm

theorem byte_look {H : HL} {k : Value → Prop} {l : List (Int × UInt8)} {bs : List Nat} {clk m : Nat} {o : Obj} (R : MapR iV iOk (u8s l) bs clk o) (i : Nat) (hm : nth H i = some (.one m o)) (a : Int) (ha : iOk a) (h : k (u8v ((get l a).getD 0))) :
    RawRd Tryz.prog (Instr.lookup 142 (.map (some m)) (iV a) false) H k := by
  refine RawRd.look (et := 5) iK (by decide +kernel) (z := .int .u8 0) ⟨_, rfl, rfl⟩ R i hm a ha ?_
  rw [u8s_get]
  cases hg : get l a <;> rw [hg] at h <;> exact h
theorem byte_look_ok {H : HL} {k : Value → Prop} {l : List (Int × UInt8)} {bs : List Nat} {clk m : Nat} {o : Obj} (R : MapR iV iOk (u8s l) bs clk o) (i : Nat) (hm : nth H i = some (.one m o)) (a : Int) (ha : iOk a) (h : k (.tuple #[u8v ((get l a).getD 0), .bool (get l a).isSome])) :
    RawRd Tryz.prog (Instr.lookup 142 (.map (some m)) (iV a) true) H k := by
  refine RawRd.look (et := 5) iK (by decide +kernel) (z := .int .u8 0) ⟨_, rfl, rfl⟩ R i hm a ha ?_
  rw [u8s_get]
  cases hg : get l a <;> rw [hg] at h <;> exact h

/-- All bytes, if they are there. -/
def wholeF (x : DEnt) : Option ByteArray := if x.all = 0 ∨ (x.bytes.length : Int) < x.all then none else some (str ((List.range x.all.toNat).map fun i : Nat => (get x.bytes (i : Int)).getD 0))

theorem wh_row (f : Nat → UInt8) (n i : Nat) (hi : i < n) : (Array.setIfInBounds (((List.range i).map f ++ List.replicate (n - i) (0 : UInt8)).map u8v).toArray i (u8v (f i))) = (((List.range (i + 1)).map f ++ List.replicate (n - (i + 1)) (0 : UInt8)).map u8v).toArray := by
  have h1 : n - i = (n - (i + 1)) + 1 := by omega
  rw [h1, List.replicate_succ, List.range_succ]
  simp only [List.map_append, List.map_cons, List.map_nil, List.append_assoc, List.cons_append, List.nil_append]
  apply Array.ext'
  have h2 : i = (((List.range i).map f).map u8v).length := by simp
  simp only [Array.toList_setIfInBounds]
  conv => lhs; arg 2; rw [h2]
  rw [set_mid]

theorem whole_spec (x m : Nat) (e : DEnt) (bs : List Nat) (clk : Nat) (o : Obj) (R : MapR iV iOk (u8s e.bytes) bs clk o) (h0 : 0 ≤ e.all) (h1 : e.all ≤ 1000000) :
    Spec Tryz.prog 84 [ptr x] [.one x (.cells #[.map (some m), i64 e.all, i64 e.age] 171 (0, 0)), .one m o]
      (Gives (.tuple #[.string ((wholeF e).getD ⟨#[]⟩), .bool (wholeF e).isSome]) [.one x (.cells #[.map (some m), i64 e.all, i64 e.age] 171 (0, 0)), .one m o]) := by
  (refine spec_of Tryz.func84 (by decide +kernel) (Nat.le_of_ble_eq_true rfl) ?_; conv => whnf)
  have hlen : (u8s e.bytes).length = e.bytes.length := by simp [u8s]
  (conv => whnf) <;> repeat' ((first | (show RawRd _ _ _ _; refine RawRd.lenm (kt := 3) (et := 5) (by decide +kernel) R 1 rfl (n := (e.bytes.length : Int)) (by rw [hlen]) ?_) | (show JoinVC _ _ _ _ _; refine jT ?_) | with_reducible refine bY ?_ | with_reducible refine bN ?_ | refine l1 0 rfl rfl ?_ | refine l1 1 rfl rfl ?_ | refine l1 2 rfl rfl ?_ | refine l1 3 rfl rfl ?_ | refine l1 4 rfl rfl ?_ | refine l1 5 rfl rfl ?_ | refine l1 6 rfl rfl ?_ | refine l1 7 rfl rfl ?_ | refine l1 8 rfl rfl ?_ | refine l1 9 rfl rfl ?_ | refine l1 10 rfl rfl ?_ | refine l1 11 rfl rfl ?_ | refine l1 12 rfl rfl ?_ | refine l1 13 rfl rfl ?_ | refine l2 0 rfl rfl ?_ | refine l2 1 rfl rfl ?_ | refine l2 2 rfl rfl ?_ | refine l2 3 rfl rfl ?_ | refine l2 4 rfl rfl ?_ | refine l2 5 rfl rfl ?_ | refine l2 6 rfl rfl ?_ | refine l2 7 rfl rfl ?_ | refine l2 8 rfl rfl ?_ | refine l2 9 rfl rfl ?_ | refine l2 10 rfl rfl ?_ | refine l2 11 rfl rfl ?_ | refine l2 12 rfl rfl ?_ | refine l2 13 rfl rfl ?_ | refine l3 0 rfl rfl rfl ?_ | refine l3 1 rfl rfl rfl ?_ | refine l3 2 rfl rfl rfl ?_ | refine l3 3 rfl rfl rfl ?_ | refine l3 4 rfl rfl rfl ?_ | refine l3 5 rfl rfl rfl ?_ | refine l3 6 rfl rfl rfl ?_ | refine l3 7 rfl rfl rfl ?_ | refine l3 8 rfl rfl rfl ?_ | refine l3 9 rfl rfl rfl ?_ | refine l3 10 rfl rfl rfl ?_ | refine l3 11 rfl rfl rfl ?_ | refine l3 12 rfl rfl rfl ?_ | refine l3 13 rfl rfl rfl ?_ | refine dY (by omega) ?_ | refine dN (by omega) ?_ | refine eY (by omega) ?_ | refine eN (by omega) ?_ | refine nY (by omega) ?_ | refine nN (by omega) ?_ | refine BV.not ?_ | refine tY (by assumption) ?_ | refine tN (by assumption) ?_ | refine dY (by assumption) ?_ | refine dN (by assumption) ?_ | refine sU (by omega) ?_ | refine aI (by omega) (by omega) ?_ | refine aW (by omega) (by omega) ?_ | refine aB (by omega) (by omega) ?_ | refine nV rfl ?_ | refine cV rfl ?_ | refine .nn (by omega) ?_ | refine appLI ?_ | refine bO ?_ ?_ | intro b | refine BV.dec (fun hq => ?_) (fun hq => ?_) | refine BV.eq (fun hq => ?_) (fun hq => ?_) | refine BV.ne (fun hq => ?_) (fun hq => ?_) | refine BV.mk (fun hq => ?_) (fun hq => ?_)) <;> (conv => whnf))
  · have : wholeF e = none := by unfold wholeF; rw [if_pos (.inl (by omega))]
    rw [this]
    exact ⟨_, _, (by (repeat (apply zC; · repeat (first | exact zH _ _ | exact zN _ | apply zT))); exact zE _), rfl, rfl⟩
  · have : wholeF e = none := by unfold wholeF; rw [if_pos (.inr (by omega))]
    rw [this]
    exact ⟨_, _, (by (repeat (apply zC; · repeat (first | exact zH _ _ | exact zN _ | apply zT))); exact zE _), rfl, rfl⟩
  · have hw : wholeF e = some (str ((List.range e.all.toNat).map fun i : Nat => (get e.bytes (i : Int)).getD 0)) := by unfold wholeF; rw [if_neg (by omega)]
    rw [hw]
    rw [repL_byte]
    generalize hn : e.all.toNat = n
    have hall : e.all = n := by omega
    refine LoopVC.iter [0, 4, 28, 29] (fun i : Nat => [(30, .int .i64 i)]) (fun i => [.one b (.cells (((List.range i).map (fun i : Nat => (get e.bytes (i : Int)).getD 0) ++ List.replicate (n - i) (0 : UInt8)).map u8v).toArray 5 (0, 0)), .one x (.cells #[.map (some m), i64 e.all, i64 e.age] 171 (0, 0)), .one m o]) (fun i => i ≤ n) (fun i => n - i) 0 _ (Nat.zero_le _) (by repeat' (first | exact trivial | rfl | refine ⟨?_, ?_⟩))
      (by simp only [Nat.sub_zero, List.range_zero, List.map_nil, List.nil_append]; exact (by (repeat (apply zC; · repeat (first | exact zH _ _ | exact zN _ | apply zT))); exact zE _)) ?_
    conv => whnf
    intro i hi
    by_cases hin : i < n
    · (conv => whnf) <;> repeat' ((first | (show RawRd _ _ _ _; refine byte_look R 2 rfl (i : Int) (iOk_of (by omega) (by omega)) ?_) | with_reducible refine bY ?_ | with_reducible refine bN ?_ | refine l1 0 rfl rfl ?_ | refine l1 1 rfl rfl ?_ | refine l1 2 rfl rfl ?_ | refine l1 3 rfl rfl ?_ | refine l1 4 rfl rfl ?_ | refine l1 5 rfl rfl ?_ | refine l1 6 rfl rfl ?_ | refine l1 7 rfl rfl ?_ | refine l1 8 rfl rfl ?_ | refine l1 9 rfl rfl ?_ | refine l1 10 rfl rfl ?_ | refine l1 11 rfl rfl ?_ | refine l1 12 rfl rfl ?_ | refine l1 13 rfl rfl ?_ | refine l2 0 rfl rfl ?_ | refine l2 1 rfl rfl ?_ | refine l2 2 rfl rfl ?_ | refine l2 3 rfl rfl ?_ | refine l2 4 rfl rfl ?_ | refine l2 5 rfl rfl ?_ | refine l2 6 rfl rfl ?_ | refine l2 7 rfl rfl ?_ | refine l2 8 rfl rfl ?_ | refine l2 9 rfl rfl ?_ | refine l2 10 rfl rfl ?_ | refine l2 11 rfl rfl ?_ | refine l2 12 rfl rfl ?_ | refine l2 13 rfl rfl ?_ | refine l3 0 rfl rfl rfl ?_ | refine l3 1 rfl rfl rfl ?_ | refine l3 2 rfl rfl rfl ?_ | refine l3 3 rfl rfl rfl ?_ | refine l3 4 rfl rfl rfl ?_ | refine l3 5 rfl rfl rfl ?_ | refine l3 6 rfl rfl rfl ?_ | refine l3 7 rfl rfl rfl ?_ | refine l3 8 rfl rfl rfl ?_ | refine l3 9 rfl rfl rfl ?_ | refine l3 10 rfl rfl rfl ?_ | refine l3 11 rfl rfl rfl ?_ | refine l3 12 rfl rfl rfl ?_ | refine l3 13 rfl rfl rfl ?_ | refine dY (by omega) ?_ | refine dN (by omega) ?_ | refine eY (by omega) ?_ | refine eN (by omega) ?_ | refine nY (by omega) ?_ | refine nN (by omega) ?_ | refine BV.not ?_ | refine tY (by assumption) ?_ | refine tN (by assumption) ?_ | refine dY (by assumption) ?_ | refine dN (by assumption) ?_ | refine sU (by omega) ?_ | refine aI (by omega) (by omega) ?_ | refine aW (by omega) (by omega) ?_ | refine aB (by omega) (by omega) ?_ | refine nV rfl ?_ | refine cV rfl ?_ | refine .nn (by omega) ?_ | refine appLI ?_ | refine bO ?_ ?_ | intro b) <;> (conv => whnf))
      refine StoreN.row 0 rfl (by simp; omega) (by simp) rfl ?_
      (conv => whnf) <;> repeat' ((first | with_reducible refine bY ?_ | with_reducible refine bN ?_ | refine l1 0 rfl rfl ?_ | refine l1 1 rfl rfl ?_ | refine l1 2 rfl rfl ?_ | refine l1 3 rfl rfl ?_ | refine l1 4 rfl rfl ?_ | refine l1 5 rfl rfl ?_ | refine l1 6 rfl rfl ?_ | refine l1 7 rfl rfl ?_ | refine l1 8 rfl rfl ?_ | refine l1 9 rfl rfl ?_ | refine l1 10 rfl rfl ?_ | refine l1 11 rfl rfl ?_ | refine l1 12 rfl rfl ?_ | refine l1 13 rfl rfl ?_ | refine l2 0 rfl rfl ?_ | refine l2 1 rfl rfl ?_ | refine l2 2 rfl rfl ?_ | refine l2 3 rfl rfl ?_ | refine l2 4 rfl rfl ?_ | refine l2 5 rfl rfl ?_ | refine l2 6 rfl rfl ?_ | refine l2 7 rfl rfl ?_ | refine l2 8 rfl rfl ?_ | refine l2 9 rfl rfl ?_ | refine l2 10 rfl rfl ?_ | refine l2 11 rfl rfl ?_ | refine l2 12 rfl rfl ?_ | refine l2 13 rfl rfl ?_ | refine l3 0 rfl rfl rfl ?_ | refine l3 1 rfl rfl rfl ?_ | refine l3 2 rfl rfl rfl ?_ | refine l3 3 rfl rfl rfl ?_ | refine l3 4 rfl rfl rfl ?_ | refine l3 5 rfl rfl rfl ?_ | refine l3 6 rfl rfl rfl ?_ | refine l3 7 rfl rfl rfl ?_ | refine l3 8 rfl rfl rfl ?_ | refine l3 9 rfl rfl rfl ?_ | refine l3 10 rfl rfl rfl ?_ | refine l3 11 rfl rfl rfl ?_ | refine l3 12 rfl rfl rfl ?_ | refine l3 13 rfl rfl rfl ?_ | refine dY (by omega) ?_ | refine dN (by omega) ?_ | refine eY (by omega) ?_ | refine eN (by omega) ?_ | refine nY (by omega) ?_ | refine nN (by omega) ?_ | refine BV.not ?_ | refine tY (by assumption) ?_ | refine tN (by assumption) ?_ | refine dY (by assumption) ?_ | refine dN (by assumption) ?_ | refine sU (by omega) ?_ | refine aI (by omega) (by omega) ?_ | refine aW (by omega) (by omega) ?_ | refine aB (by omega) (by omega) ?_ | refine nV rfl ?_ | refine cV rfl ?_ | refine .nn (by omega) ?_ | refine appLI ?_ | refine bO ?_ ?_ | intro b) <;> (conv => whnf))
      refine ⟨i + 1, [], by omega, by omega, (by repeat' (first | exact trivial | rfl | refine ⟨?_, ?_⟩)), ?_⟩
      have := wh_row (fun i : Nat => (get e.bytes (i : Int)).getD 0) n i hin
      rw [← this, show 0 + ((i : Int)).toNat * 1 = i from by omega]
      exact (by (repeat (apply zC; · repeat (first | exact zH _ _ | exact zN _ | apply zT))); exact zE _)
    · have : i = n := by omega
      subst this
      (conv => whnf) <;> repeat' ((first | (show RawRd _ _ _ _; refine RawRd.b2s (l := (List.range i).map fun i : Nat => (get e.bytes (i : Int)).getD 0) rfl 0 rfl (by simp only [Nat.sub_self, List.replicate_zero, List.append_nil]; exact takeL_all (by simp)) ?_) | with_reducible refine bY ?_ | with_reducible refine bN ?_ | refine l1 0 rfl rfl ?_ | refine l1 1 rfl rfl ?_ | refine l1 2 rfl rfl ?_ | refine l1 3 rfl rfl ?_ | refine l1 4 rfl rfl ?_ | refine l1 5 rfl rfl ?_ | refine l1 6 rfl rfl ?_ | refine l1 7 rfl rfl ?_ | refine l1 8 rfl rfl ?_ | refine l1 9 rfl rfl ?_ | refine l1 10 rfl rfl ?_ | refine l1 11 rfl rfl ?_ | refine l1 12 rfl rfl ?_ | refine l1 13 rfl rfl ?_ | refine l2 0 rfl rfl ?_ | refine l2 1 rfl rfl ?_ | refine l2 2 rfl rfl ?_ | refine l2 3 rfl rfl ?_ | refine l2 4 rfl rfl ?_ | refine l2 5 rfl rfl ?_ | refine l2 6 rfl rfl ?_ | refine l2 7 rfl rfl ?_ | refine l2 8 rfl rfl ?_ | refine l2 9 rfl rfl ?_ | refine l2 10 rfl rfl ?_ | refine l2 11 rfl rfl ?_ | refine l2 12 rfl rfl ?_ | refine l2 13 rfl rfl ?_ | refine l3 0 rfl rfl rfl ?_ | refine l3 1 rfl rfl rfl ?_ | refine l3 2 rfl rfl rfl ?_ | refine l3 3 rfl rfl rfl ?_ | refine l3 4 rfl rfl rfl ?_ | refine l3 5 rfl rfl rfl ?_ | refine l3 6 rfl rfl rfl ?_ | refine l3 7 rfl rfl rfl ?_ | refine l3 8 rfl rfl rfl ?_ | refine l3 9 rfl rfl rfl ?_ | refine l3 10 rfl rfl rfl ?_ | refine l3 11 rfl rfl rfl ?_ | refine l3 12 rfl rfl rfl ?_ | refine l3 13 rfl rfl rfl ?_ | refine dY (by omega) ?_ | refine dN (by omega) ?_ | refine eY (by omega) ?_ | refine eN (by omega) ?_ | refine nY (by omega) ?_ | refine nN (by omega) ?_ | refine BV.not ?_ | refine tY (by assumption) ?_ | refine tN (by assumption) ?_ | refine dY (by assumption) ?_ | refine dN (by assumption) ?_ | refine sU (by omega) ?_ | refine aI (by omega) (by omega) ?_ | refine aW (by omega) (by omega) ?_ | refine aB (by omega) (by omega) ?_ | refine nV rfl ?_ | refine cV rfl ?_ | refine .nn (by omega) ?_ | refine appLI ?_ | refine bO ?_ ?_ | intro b) <;> (conv => whnf))

      exact ⟨_, _, (by (repeat (apply zC; · repeat (first | exact zH _ _ | exact zN _ | apply zT))); exact zE _), rfl, rfl⟩
end Go.Sv
