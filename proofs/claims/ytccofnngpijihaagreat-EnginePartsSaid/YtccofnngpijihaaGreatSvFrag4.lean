/- Datagrams that come in parts: the contracts. -/
import Derived.Test.YtccofnngpijihaaGreatSvFrag3
import Derived.Test.YtccofnngpijihaaGreatVcRe
import Derived.Test.YtccofnngpijihaaGreatProg
set_option linter.all false
namespace Go.Sv
open Go.Proofs
set_option maxRecDepth 100000
set_option maxHeartbeats 20000000
set_option linter.unusedVariables false

theorem Add_4 (d : Nat) (s : Frags) (h : IpH) (body : ByteArray) (m : Nat) (bs : List Nat) (clk : Nat) (o : Obj) (L : List (DKey × Nat × DEnt)) (U : List Ent)
    (RM : MapR dkV dkOk (L.map fun p : DKey × Nat × DEnt => (p.1, pv p.2)) bs clk o) (hk : dkOk (ipKey h)) (ho : -100000 ≤ h.off ∧ h.off ≤ 100000) (hb : body.size ≤ 100000)
    (c1 : ¬(h.more = false ∧ h.off ≤ 0)) (c2 : ¬(body.size = 0 ∨ (h.more = true ∧ (body.size : Int) % 8 ≠ 0) ∨ h.off < 0)) (c3 : ¬(2000 < (body.size : Int) ∨ 2000 - (body.size : Int) < h.off)) (hg : get L (ipKey h) = none) (hlen : s.most ≤ (L.length : Int)) :
    Spec Tryz.prog 49 [ptr d, .agg h.vals.toArray, .string body] [tblC d s m, .one m o, .many U] (Gives (.tuple #[.string ⟨#[]⟩, .bool false, i64 10]) [tblC d s m, .one m o, .many U]) := by
  have hz0 : body = ⟨#[]⟩ → body.size = 0 := fun e => by rw [e]; rfl
  have hz : body.size ≠ 0 := fun e => c2 (.inl e)
  have hz2 : ¬ body = ⟨#[]⟩ := fun e => hz (hz0 e)
  have ho1 : ¬ h.off < 0 := fun e => c2 (.inr (.inr e))
  have hgc : get (L.map fun p : DKey × Nat × DEnt => (p.1, pv p.2)) (ipKey h) = none := by rw [pv_get, hg]; rfl
  (refine spec_of Tryz.func49 (by decide +kernel) (Nat.le_of_ble_eq_true rfl) ?_; conv => whnf)
  (conv => whnf) <;> repeat' ((first | (show RawRd _ _ _ _; refine RawRd.lookZ (et := 169) dkK (by decide +kernel) (z := .pointer none) ⟨_, rfl, rfl⟩ RM 0 rfl (ipKey h) hk hgc ?_) | (show RawRd _ _ _ _; refine RawRd.lookZ (et := 169) dkK (by decide +kernel) (z := .pointer none) ⟨_, rfl, rfl⟩ RM 1 rfl (ipKey h) hk hgc ?_) | (show RawRd _ _ _ _; refine RawRd.lookZ (et := 169) dkK (by decide +kernel) (z := .pointer none) ⟨_, rfl, rfl⟩ RM 2 rfl (ipKey h) hk hgc ?_) | (show RawRd _ _ _ _; refine RawRd.lookZ (et := 169) dkK (by decide +kernel) (z := .pointer none) ⟨_, rfl, rfl⟩ RM 3 rfl (ipKey h) hk hgc ?_) | (show RawRd _ _ _ _; refine RawRd.lookZ (et := 169) dkK (by decide +kernel) (z := .pointer none) ⟨_, rfl, rfl⟩ RM 4 rfl (ipKey h) hk hgc ?_) | (show RawRd _ _ _ _; refine RawRd.lookZ (et := 169) dkK (by decide +kernel) (z := .pointer none) ⟨_, rfl, rfl⟩ RM 5 rfl (ipKey h) hk hgc ?_) | (show RawRd _ _ _ _; refine RawRd.lookZ (et := 169) dkK (by decide +kernel) (z := .pointer none) ⟨_, rfl, rfl⟩ RM 6 rfl (ipKey h) hk hgc ?_) | (show RawRd _ _ _ _; refine RawRd.lookZ (et := 169) dkK (by decide +kernel) (z := .pointer none) ⟨_, rfl, rfl⟩ RM 7 rfl (ipKey h) hk hgc ?_) | (show RawRd _ _ _ _; refine RawRd.lenm (kt := 168) (et := 169) (by decide +kernel) RM 0 rfl (n := (L.length : Int)) (by rw [List.length_map]) ?_) | (show RawRd _ _ _ _; refine RawRd.lenm (kt := 168) (et := 169) (by decide +kernel) RM 1 rfl (n := (L.length : Int)) (by rw [List.length_map]) ?_) | (show RawRd _ _ _ _; refine RawRd.lenm (kt := 168) (et := 169) (by decide +kernel) RM 2 rfl (n := (L.length : Int)) (by rw [List.length_map]) ?_) | (show RawRd _ _ _ _; refine RawRd.lenm (kt := 168) (et := 169) (by decide +kernel) RM 3 rfl (n := (L.length : Int)) (by rw [List.length_map]) ?_) | (show RawRd _ _ _ _; refine RawRd.lenm (kt := 168) (et := 169) (by decide +kernel) RM 4 rfl (n := (L.length : Int)) (by rw [List.length_map]) ?_) | (show RawRd _ _ _ _; refine RawRd.lenm (kt := 168) (et := 169) (by decide +kernel) RM 5 rfl (n := (L.length : Int)) (by rw [List.length_map]) ?_) | (show RawRd _ _ _ _; refine RawRd.lenm (kt := 168) (et := 169) (by decide +kernel) RM 6 rfl (n := (L.length : Int)) (by rw [List.length_map]) ?_) | (show RawRd _ _ _ _; refine RawRd.lenm (kt := 168) (et := 169) (by decide +kernel) RM 7 rfl (n := (L.length : Int)) (by rw [List.length_map]) ?_) | with_reducible refine bY ?_ | with_reducible refine bN ?_ | refine l1 0 rfl rfl ?_ | refine l1 1 rfl rfl ?_ | refine l1 2 rfl rfl ?_ | refine l1 3 rfl rfl ?_ | refine l1 4 rfl rfl ?_ | refine l1 5 rfl rfl ?_ | refine l1 6 rfl rfl ?_ | refine l1 7 rfl rfl ?_ | refine l1 8 rfl rfl ?_ | refine l1 9 rfl rfl ?_ | refine l1 10 rfl rfl ?_ | refine l1 11 rfl rfl ?_ | refine l1 12 rfl rfl ?_ | refine l1 13 rfl rfl ?_ | refine l2 0 rfl rfl ?_ | refine l2 1 rfl rfl ?_ | refine l2 2 rfl rfl ?_ | refine l2 3 rfl rfl ?_ | refine l2 4 rfl rfl ?_ | refine l2 5 rfl rfl ?_ | refine l2 6 rfl rfl ?_ | refine l2 7 rfl rfl ?_ | refine l2 8 rfl rfl ?_ | refine l2 9 rfl rfl ?_ | refine l2 10 rfl rfl ?_ | refine l2 11 rfl rfl ?_ | refine l2 12 rfl rfl ?_ | refine l2 13 rfl rfl ?_ | refine l3 0 rfl rfl rfl ?_ | refine l3 1 rfl rfl rfl ?_ | refine l3 2 rfl rfl rfl ?_ | refine l3 3 rfl rfl rfl ?_ | refine l3 4 rfl rfl rfl ?_ | refine l3 5 rfl rfl rfl ?_ | refine l3 6 rfl rfl rfl ?_ | refine l3 7 rfl rfl rfl ?_ | refine l3 8 rfl rfl rfl ?_ | refine l3 9 rfl rfl rfl ?_ | refine l3 10 rfl rfl rfl ?_ | refine l3 11 rfl rfl rfl ?_ | refine l3 12 rfl rfl rfl ?_ | refine l3 13 rfl rfl rfl ?_ | refine dY (by omega) ?_ | refine dN (by omega) ?_ | refine eY (by omega) ?_ | refine eN (by omega) ?_ | refine nY (by omega) ?_ | refine nN (by omega) ?_ | refine BV.not ?_ | refine tY (by assumption) ?_ | refine tN (by assumption) ?_ | refine dY (by assumption) ?_ | refine dN (by assumption) ?_ | refine sU (by omega) ?_ | refine aI (by omega) (by omega) ?_ | refine aW (by omega) (by omega) ?_ | refine aB (by omega) (by omega) ?_ | refine nV rfl ?_ | refine cV rfl ?_ | refine .nn (by omega) ?_ | refine appLI ?_ | refine bO ?_ ?_ | refine jT ?_ | intro b | refine BV.dec (fun hq => ?_) (fun hq => ?_) | refine BV.eq (fun hq => ?_) (fun hq => ?_) | refine BV.ne (fun hq => ?_) (fun hq => ?_) | refine BV.mk (fun hq => ?_) (fun hq => ?_)) <;> (conv => whnf))
  all_goals first | exact ⟨_, _, (by (repeat (apply zC; · repeat (first | exact zH _ _ | exact zN _ | apply zT))); exact zE _), rfl, rfl⟩ | (exfalso; first | omega | exact absurd ⟨‹_›, ‹_›⟩ c1 | exact c2 (.inr (.inl ⟨‹_›, ‹_›⟩)))

theorem FragR.out {d : Nat} {s : Frags} {T : List Ent} (h : FragR d s T) : ∃ m bs clk o L U, MapR dkV dkOk (L.map fun p : DKey × Nat × DEnt => (p.1, pv p.2)) bs clk o ∧ Ptrs DEntQ L U ∧ s.l = er L ∧ (1 ≤ s.ticks ∧ s.ticks ≤ 100000) ∧
    T = flat [tblC d s m, .one m o, .many U] := by
  obtain ⟨m, bs, clk, o, L, U, h1, h2, h3, h4, h5⟩ := h
  exact ⟨m, bs, clk, o, L, U, h1, h2, h3, h4, by rw [h5]; simp⟩
theorem FragR.in {d : Nat} {s : Frags} {m : Nat} {bs : List Nat} {clk : Nat} {o : Obj} {L : List (DKey × Nat × DEnt)} {U : List Ent} (h1 : MapR dkV dkOk (L.map fun p : DKey × Nat × DEnt => (p.1, pv p.2)) bs clk o) (h2 : Ptrs DEntQ L U) (h3 : s.l = er L)
    (h4 : 1 ≤ s.ticks ∧ s.ticks ≤ 100000) : FragR d s (flat [tblC d s m, .one m o, .many U]) := ⟨m, bs, clk, o, L, U, h1, h2, h3, h4, by simp⟩

theorem Ptrs.del {K X : Type} [DecidableEq K] {R : Nat → X → List Ent → Prop} : ∀ {L : List (K × Nat × X)} {T : List Ent}, Ptrs R L T → ∀ k, ∃ T' T2, Ptrs R (del L k) T' ∧ T.Perm (T' ++ T2) := by
  intro L T h k
  induction h with
  | nil => exact ⟨[], [], .nil, .refl _⟩
  | @cons k' b x L T U h t ih =>
    simp only [Sv.del]
    split
    · exact ⟨U, T, t, List.perm_append_comm⟩
    · obtain ⟨T', T2, h1, h2⟩ := ih
      exact ⟨T ++ T', T2, .cons h h1, by rw [List.append_assoc]; exact h2.append_left T⟩

theorem Add_spec (d : Nat) (s : Frags) (T : List Ent) (R : FragR d s T) (h : IpH) (body : ByteArray) (hk : dkOk (ipKey h)) (ho : -100000 ≤ h.off ∧ h.off ≤ 100000) (hb : body.size ≤ 100000) :
    Spec Tryz.prog 49 [ptr d, .agg h.vals.toArray, .string body] [.many T] (Rets fun v A => ∃ T', A = [.many T'] ∧
      FragR d (addF s h body).1 T' ∧ v = .tuple #[.string (addF s h body).2.1, .bool (addF s h body).2.2.1, i64 (addF s h body).2.2.2]) := by
  refine Spec.pack (q := fun v T' => FragR d (addF s h body).1 T' ∧ v = .tuple #[.string (addF s h body).2.1, .bool (addF s h body).2.2.1, i64 (addF s h body).2.2.2]) ?_
  obtain ⟨m, bs, clk, o, L, U, RM, RP, hl, ht, rfl⟩ := R.out
  refine Spec.many (pre := [tblC d s m, .one m o, .many U]) ?_ (by simp)
  have keep : FragR d s (flat [tblC d s m, .one m o, .many U]) := FragR.in RM RP hl ht
  by_cases c1 : h.more = false ∧ h.off ≤ 0
  · have e : addF s h body = (s, body, true, 0) := by rw [addF, if_pos c1]
    rw [e]
    refine spec_mono (Add_1 d s h body m o U c1.1 c1.2) ?_
    rintro o A hp
    cases o with
    | panic c => exact hp.elim
    | ret v =>
      obtain ⟨rfl, rfl⟩ := hp; exact ⟨keep, rfl⟩
  by_cases c2 : body.size = 0 ∨ (h.more = true ∧ (body.size : Int) % 8 ≠ 0) ∨ h.off < 0
  · have e : addF s h body = (s, ⟨#[]⟩, false, 3) := by rw [addF, if_neg c1, if_pos c2]
    rw [e]
    refine spec_mono (Add_2 d s h body m bs clk o L U RM hk ho hb c1 c2) ?_
    rintro o A hp
    cases o with
    | panic c => exact hp.elim
    | ret v =>
      obtain ⟨rfl, rfl⟩ := hp; exact ⟨keep, rfl⟩
  by_cases c3 : 2000 < (body.size : Int) ∨ 2000 - (body.size : Int) < h.off
  · have e : addF s h body = ({ s with l := Sv.del s.l (ipKey h) }, ⟨#[]⟩, false, 5) := by rw [addF, if_neg c1, if_neg c2, if_pos c3]
    rw [e]
    obtain ⟨T', T2, hT', hperm⟩ := RP.del (ipKey h)
    have hs := Add_3 d s h body m bs clk o L U RM hk ho hb c1 c2 c3
    intro F w0 w hok
    refine (hs F w0 w hok).mono fun en w' he => ?_
    obtain ⟨out, A, hen, hp, hok'⟩ := he
    cases out with
    | panic c => exact hp.elim
    | ret v =>
      obtain ⟨bs', o', R', rfl, rfl⟩ := hp
      refine ⟨.ret _, [tblC d s m, .one m o', .many T'], hen, ⟨?_, rfl⟩, ?_⟩
      · refine ⟨m, bs', clk, o', Sv.del L (ipKey h), T', R', hT', ?_, ht, by simp⟩
        simp only; rw [hl, er]; exact (map_del Prod.snd L (ipKey h)).symm
      · have : Ok (T2 ++ F) [tblC d s m, .one m o', .many T'] w0 w' := hok'.perm (by
          simp only [flat_one, flat_many, flat_nil, List.append_nil, List.cons_append]
          refine (List.Perm.cons _ (List.Perm.cons _ ?_))
          rw [← List.append_assoc]; exact hperm.append_right F)
        exact this.drop
  · by_cases c4 : get s.l (ipKey h) = none ∧ s.most ≤ s.l.length
    · have hgL : get L (ipKey h) = none := by
        have := c4.1
        rw [hl, er, er_get] at this
        simpa using this
      have hlen : s.most ≤ (L.length : Int) := by have := c4.2; rw [hl, er, List.length_map] at this; exact this
      have e : addF s h body = (s, ⟨#[]⟩, false, 10) := by rw [addF, if_neg c1, if_neg c2, if_neg c3, c4.1]; simp only; rw [if_pos c4.2]
      rw [e]
      refine spec_mono (Add_4 d s h body m bs clk o L U RM hk ho hb c1 c2 c3 hgL hlen) ?_
      rintro o A hp
      cases o with
      | panic c => exact hp.elim
      | ret v =>
        obtain ⟨rfl, rfl⟩ := hp; exact ⟨keep, rfl⟩
    · refine (Add_5 d s h body m bs clk o L U RM RP hl ht hk ho hb c1 c2 c3 fun a b => c4 ⟨a, b⟩)

/-- What ticks leave. -/
def tick1 (n ticks : Int) (x : DEnt) : Option DEnt := if ticks ≤ x.age + n then none else some { x with age := x.age + n }
def tickL (n ticks : Int) (S : List DKey) (L : List (DKey × Nat × DEnt)) : List (DKey × Nat × DEnt) :=
  L.filterMap fun p => if p.1 ∈ S then (tick1 n ticks p.2.2).map fun x => (p.1, p.2.1, x) else some p
def tickF (s : Frags) (n : Int) : Frags := { s with l := s.l.filterMap fun p => (tick1 n s.ticks p.2).map fun x => (p.1, x) }

theorem tickL_keys {n ticks : Int} {S : List DKey} {L : List (DKey × Nat × DEnt)} {q : DKey × Nat × DEnt} (h : q ∈ tickL n ticks S L) : ∃ p ∈ L, p.1 = q.1 := by
  obtain ⟨p, hp, he⟩ := List.mem_filterMap.1 h
  split at he
  · obtain ⟨x, _, rfl⟩ := Option.map_eq_some_iff.1 he
    exact ⟨p, hp, rfl⟩
  · cases he; exact ⟨_, hp, rfl⟩

theorem tickL_step {n ticks : Int} {S : List DKey} {L A B : List (DKey × Nat × DEnt)} {k : DKey} {b : Nat} {x : DEnt} (hn : (L.map Prod.fst).Nodup) (h : tickL n ticks S L = A ++ (k, b, x) :: B) (hk : k ∉ S) :
    (∃ L1 L2, L = L1 ++ (k, b, x) :: L2) ∧ tickL n ticks (k :: S) L = A ++ (match tick1 n ticks x with | some x' => [(k, b, x')] | none => []) ++ B := by
  obtain ⟨L1, L2, rfl, h1, h2⟩ := List.filterMap_eq_append_iff.1 h
  obtain ⟨M, q, L3, rfl, hM, hq, h3⟩ := List.filterMap_eq_cons_iff.1 h2
  have hqk : q = (k, b, x) := by
    split at hq
    · rename_i hs
      obtain ⟨y, hy, e⟩ := Option.map_eq_some_iff.1 hq
      have : q.1 = k := by injection e
      rw [this] at hs
      exact absurd hs hk
    · exact Option.some.inj hq
  subst hqk
  have hne : ∀ (l : List (DKey × Nat × DEnt)), (∀ p ∈ l, p.1 ≠ k) → tickL n ticks (k :: S) l = tickL n ticks S l := by
    intro l
    induction l with
    | nil => intro _; rfl
    | cons p l ih =>
      intro hl
      have h0 := hl p (by simp)
      have h1 := ih fun q hq => hl q (List.mem_cons_of_mem _ hq)
      unfold tickL at h1 ⊢
      simp only [List.filterMap_cons, List.mem_cons, h0, false_or] at h1 ⊢
      rw [h1]
  simp only [List.map_append, List.map_cons, List.nodup_append, List.nodup_cons] at hn
  obtain ⟨n1, ⟨n2, n3, n4⟩, n5⟩ := hn
  have d1 : ∀ p ∈ L1, p.1 ≠ k := fun p hp e => n5 p.1 (List.mem_map_of_mem hp) k (by simp) e
  have d2 : ∀ p ∈ M, p.1 ≠ k := fun p hp e => n4 p.1 (List.mem_map_of_mem hp) k (by simp) e
  have d3 : ∀ p ∈ L3, p.1 ≠ k := fun p hp e => n3.1 (by rw [← e]; exact List.mem_map_of_mem hp)
  refine ⟨⟨L1 ++ M, L3, by simp⟩, ?_⟩
  have eM : tickL n ticks S M = [] := List.filterMap_eq_nil_iff.2 hM
  have e1 : tickL n ticks S L1 = A := h1
  have e3 : tickL n ticks S L3 = B := h3
  have app : ∀ (a c : List (DKey × Nat × DEnt)) (T : List DKey), tickL n ticks T (a ++ c) = tickL n ticks T a ++ tickL n ticks T c := fun a c T => List.filterMap_append
  rw [app, app, hne L1 d1, e1, hne M d2, eM]
  have e4 : tickL n ticks (k :: S) ((k, b, x) :: L3) = (match tick1 n ticks x with | some x' => [(k, b, x')] | none => []) ++ tickL n ticks (k :: S) L3 := by
    cases ht : tick1 n ticks x <;> simp [tickL, List.filterMap_cons, ht]
  rw [e4, hne L3 d3, e3]; simp

theorem tickL_end {n ticks : Int} {S : List DKey} {L : List (DKey × Nat × DEnt)} (h : ∀ p ∈ tickL n ticks S L, p.1 ∈ S) : er (tickL n ticks S L) = (er L).filterMap fun p => (tick1 n ticks p.2).map fun x => (p.1, x) := by
  have hall : ∀ p ∈ L, p.1 ∈ S := by
    intro p hp
    by_cases hs : p.1 ∈ S
    · exact hs
    · exact h p (List.mem_filterMap.2 ⟨p, hp, by rw [if_neg hs]⟩)
  clear h
  unfold er tickL
  induction L with
  | nil => rfl
  | cons p L ih =>
    have h0 := hall p (by simp)
    have := ih (fun q hq => hall q (List.mem_cons_of_mem _ hq))
    simp only [List.filterMap_cons, h0, if_true, List.map_cons]
    cases ht : tick1 n ticks p.2.2 <;> simp [this]

theorem perm_out {α : Type} (A M B R : List α) : (A ++ (M ++ (B ++ R))).Perm ((A ++ B) ++ (R ++ M)) := by
  rw [List.append_assoc]
  exact List.Perm.append_left A (List.perm_append_comm.trans (by rw [List.append_assoc]))

theorem er_len (L : List (DKey × Nat × DEnt)) : (er L).length = L.length := by simp [er]
theorem tickL_len (n ticks : Int) (S : List DKey) (L : List (DKey × Nat × DEnt)) : (tickL n ticks S L).length ≤ L.length := List.length_filterMap_le _ _

theorem cont_mem {L : List (DKey × Nat × DEnt)} {p : DKey × Value} (h : p ∈ cont L) : ∃ b x, (p.1, b, x) ∈ L ∧ p.2 = ptr b := by
  obtain ⟨q, hq, rfl⟩ := List.mem_map.1 h
  exact ⟨q.2.1, q.2.2, hq, rfl⟩
theorem cont_keys (L : List (DKey × Nat × DEnt)) : (cont L).map Prod.fst = L.map Prod.fst := by simp [cont]

theorem fTick_spec (d : Nat) (s : Frags) (T : List Ent) (R : FragR d s T) (n : Int) (hsz : s.l.length ≤ 100000) :
    Spec Tryz.prog 39 [ptr d, i64 n] [.many T] (Rets fun v A => ∃ T', A = [.many T'] ∧ FragR d (tickF s (max 0 (min n 100000))) T' ∧ v = i64 (s.l.length - (tickF s (max 0 (min n 100000))).l.length)) := by
  obtain ⟨m, bs, clk, o, L, U, RM, RP, hl, ht, rfl⟩ := R.out
  refine Spec.many (pre := [tblC d s m, .one m o, .many U]) ?_ (by simp)
  have hszL : L.length ≤ 100000 := by rw [hl, er_len] at hsz; exact hsz
  (refine spec_of Tryz.func39 (by decide +kernel) (Nat.le_of_ble_eq_true rfl) ?_; conv => whnf)
  have hn0 : 0 ≤ max 0 (min n 100000) ∧ max 0 (min n 100000) ≤ 100000 := by omega
  generalize max 0 (min n 100000) = N at hn0 ⊢
  (conv => whnf) <;> repeat' ((first | (show RawVC _ _ _ _ _; refine RawVC.rng (kt := 168) (et := 169) (by decide +kernel) RM 1 rfl (fun r it I => ?_)) | with_reducible refine bY ?_ | with_reducible refine bN ?_ | refine l1 0 rfl rfl ?_ | refine l1 1 rfl rfl ?_ | refine l1 2 rfl rfl ?_ | refine l1 3 rfl rfl ?_ | refine l1 4 rfl rfl ?_ | refine l1 5 rfl rfl ?_ | refine l1 6 rfl rfl ?_ | refine l1 7 rfl rfl ?_ | refine l1 8 rfl rfl ?_ | refine l1 9 rfl rfl ?_ | refine l1 10 rfl rfl ?_ | refine l1 11 rfl rfl ?_ | refine l1 12 rfl rfl ?_ | refine l1 13 rfl rfl ?_ | refine l2 0 rfl rfl ?_ | refine l2 1 rfl rfl ?_ | refine l2 2 rfl rfl ?_ | refine l2 3 rfl rfl ?_ | refine l2 4 rfl rfl ?_ | refine l2 5 rfl rfl ?_ | refine l2 6 rfl rfl ?_ | refine l2 7 rfl rfl ?_ | refine l2 8 rfl rfl ?_ | refine l2 9 rfl rfl ?_ | refine l2 10 rfl rfl ?_ | refine l2 11 rfl rfl ?_ | refine l2 12 rfl rfl ?_ | refine l2 13 rfl rfl ?_ | refine l3 0 rfl rfl rfl ?_ | refine l3 1 rfl rfl rfl ?_ | refine l3 2 rfl rfl rfl ?_ | refine l3 3 rfl rfl rfl ?_ | refine l3 4 rfl rfl rfl ?_ | refine l3 5 rfl rfl rfl ?_ | refine l3 6 rfl rfl rfl ?_ | refine l3 7 rfl rfl rfl ?_ | refine l3 8 rfl rfl rfl ?_ | refine l3 9 rfl rfl rfl ?_ | refine l3 10 rfl rfl rfl ?_ | refine l3 11 rfl rfl rfl ?_ | refine l3 12 rfl rfl rfl ?_ | refine l3 13 rfl rfl rfl ?_ | refine dY (by omega) ?_ | refine dN (by omega) ?_ | refine eY (by omega) ?_ | refine eN (by omega) ?_ | refine nY (by omega) ?_ | refine nN (by omega) ?_ | refine BV.not ?_ | refine tY (by assumption) ?_ | refine tN (by assumption) ?_ | refine dY (by assumption) ?_ | refine dN (by assumption) ?_ | refine sU (by omega) ?_ | refine aI (by omega) (by omega) ?_ | refine aW (by omega) (by omega) ?_ | refine aB (by omega) (by omega) ?_ | refine nV rfl ?_ | refine cV rfl ?_ | refine .nn (by omega) ?_ | refine appLI ?_ | refine bO ?_ ?_ | intro b) <;> (conv => whnf))
  have h0 : tickL N s.ticks [] L = L := by simp [tickL]
  refine LoopVC.iter [0, 1, 15] (fun i : List DKey × List Nat × Obj × Obj × List Ent => [(5, i64 ((L.length : Int) - (tickL N s.ticks i.1 L).length))])
    (fun i => [tblC d s m, .one m i.2.2.1, .many i.2.2.2.2, .one r i.2.2.2.1])
    (fun i => MapR dkV dkOk (cont (tickL N s.ticks i.1 L)) i.2.1 clk i.2.2.1 ∧ IterR (cont (tickL N s.ticks i.1 L)) i.2.1 clk m i.1 none i.2.2.2.1 ∧ Ptrs DEntQ (tickL N s.ticks i.1 L) i.2.2.2.2)
    (fun i => leftN L i.1) ([], bs, o, it, U) _ ⟨by simp only [h0]; exact RM, by simp only [h0]; exact I, by simp only [h0]; exact RP⟩ (by simp only [h0, Int.sub_self]; exact (by repeat' (first | exact trivial | rfl | refine ⟨?_, ?_⟩))) (by (repeat (apply zC; · repeat (first | exact zH _ _ | exact zN _ | apply zT))); exact zE _) ?_
  conv => whnf
  rintro ⟨S, bs', o', it', U'⟩ ⟨R', I', P'⟩
  simp only at R' I' P' ⊢
  have hnd : (L.map Prod.fst).Nodup := by have := RM.apart; rw [← cont, cont_keys] at this; exact this
  (conv => whnf) <;> repeat' ((first | with_reducible refine bY ?_ | with_reducible refine bN ?_ | refine l1 0 rfl rfl ?_ | refine l1 1 rfl rfl ?_ | refine l1 2 rfl rfl ?_ | refine l1 3 rfl rfl ?_ | refine l1 4 rfl rfl ?_ | refine l1 5 rfl rfl ?_ | refine l1 6 rfl rfl ?_ | refine l1 7 rfl rfl ?_ | refine l1 8 rfl rfl ?_ | refine l1 9 rfl rfl ?_ | refine l1 10 rfl rfl ?_ | refine l1 11 rfl rfl ?_ | refine l1 12 rfl rfl ?_ | refine l1 13 rfl rfl ?_ | refine l2 0 rfl rfl ?_ | refine l2 1 rfl rfl ?_ | refine l2 2 rfl rfl ?_ | refine l2 3 rfl rfl ?_ | refine l2 4 rfl rfl ?_ | refine l2 5 rfl rfl ?_ | refine l2 6 rfl rfl ?_ | refine l2 7 rfl rfl ?_ | refine l2 8 rfl rfl ?_ | refine l2 9 rfl rfl ?_ | refine l2 10 rfl rfl ?_ | refine l2 11 rfl rfl ?_ | refine l2 12 rfl rfl ?_ | refine l2 13 rfl rfl ?_ | refine l3 0 rfl rfl rfl ?_ | refine l3 1 rfl rfl rfl ?_ | refine l3 2 rfl rfl rfl ?_ | refine l3 3 rfl rfl rfl ?_ | refine l3 4 rfl rfl rfl ?_ | refine l3 5 rfl rfl rfl ?_ | refine l3 6 rfl rfl rfl ?_ | refine l3 7 rfl rfl rfl ?_ | refine l3 8 rfl rfl rfl ?_ | refine l3 9 rfl rfl rfl ?_ | refine l3 10 rfl rfl rfl ?_ | refine l3 11 rfl rfl rfl ?_ | refine l3 12 rfl rfl rfl ?_ | refine l3 13 rfl rfl rfl ?_ | refine dY (by omega) ?_ | refine dN (by omega) ?_ | refine eY (by omega) ?_ | refine eN (by omega) ?_ | refine nY (by omega) ?_ | refine nN (by omega) ?_ | refine BV.not ?_ | refine tY (by assumption) ?_ | refine tN (by assumption) ?_ | refine dY (by assumption) ?_ | refine dN (by assumption) ?_ | refine sU (by omega) ?_ | refine aI (by omega) (by omega) ?_ | refine aW (by omega) (by omega) ?_ | refine aB (by omega) (by omega) ?_ | refine nV rfl ?_ | refine cV rfl ?_ | refine .nn (by omega) ?_ | refine appLI ?_ | refine bO ?_ ?_ | intro b) <;> (conv => whnf))
  refine RawVC.re (RawVC.nxt R' I' 3 rfl 1 rfl (fun hall => ⟨_, .refl _, ?_⟩) (fun p hp hs it2 I2 => ?_))
  · (conv => whnf) <;> repeat' ((first | with_reducible refine bY ?_ | with_reducible refine bN ?_ | refine l1 0 rfl rfl ?_ | refine l1 1 rfl rfl ?_ | refine l1 2 rfl rfl ?_ | refine l1 3 rfl rfl ?_ | refine l1 4 rfl rfl ?_ | refine l1 5 rfl rfl ?_ | refine l1 6 rfl rfl ?_ | refine l1 7 rfl rfl ?_ | refine l1 8 rfl rfl ?_ | refine l1 9 rfl rfl ?_ | refine l1 10 rfl rfl ?_ | refine l1 11 rfl rfl ?_ | refine l1 12 rfl rfl ?_ | refine l1 13 rfl rfl ?_ | refine l2 0 rfl rfl ?_ | refine l2 1 rfl rfl ?_ | refine l2 2 rfl rfl ?_ | refine l2 3 rfl rfl ?_ | refine l2 4 rfl rfl ?_ | refine l2 5 rfl rfl ?_ | refine l2 6 rfl rfl ?_ | refine l2 7 rfl rfl ?_ | refine l2 8 rfl rfl ?_ | refine l2 9 rfl rfl ?_ | refine l2 10 rfl rfl ?_ | refine l2 11 rfl rfl ?_ | refine l2 12 rfl rfl ?_ | refine l2 13 rfl rfl ?_ | refine l3 0 rfl rfl rfl ?_ | refine l3 1 rfl rfl rfl ?_ | refine l3 2 rfl rfl rfl ?_ | refine l3 3 rfl rfl rfl ?_ | refine l3 4 rfl rfl rfl ?_ | refine l3 5 rfl rfl rfl ?_ | refine l3 6 rfl rfl rfl ?_ | refine l3 7 rfl rfl rfl ?_ | refine l3 8 rfl rfl rfl ?_ | refine l3 9 rfl rfl rfl ?_ | refine l3 10 rfl rfl rfl ?_ | refine l3 11 rfl rfl rfl ?_ | refine l3 12 rfl rfl rfl ?_ | refine l3 13 rfl rfl rfl ?_ | refine dY (by omega) ?_ | refine dN (by omega) ?_ | refine eY (by omega) ?_ | refine eN (by omega) ?_ | refine nY (by omega) ?_ | refine nN (by omega) ?_ | refine BV.not ?_ | refine tY (by assumption) ?_ | refine tN (by assumption) ?_ | refine dY (by assumption) ?_ | refine dN (by assumption) ?_ | refine sU (by omega) ?_ | refine aI (by omega) (by omega) ?_ | refine aW (by omega) (by omega) ?_ | refine aB (by omega) (by omega) ?_ | refine nV rfl ?_ | refine cV rfl ?_ | refine .nn (by omega) ?_ | refine appLI ?_ | refine bO ?_ ?_ | intro b) <;> (conv => whnf))
    have e1 : (tickF s N).l = er (tickL N s.ticks S L) := by
      rw [tickL_end (fun p hp => hall (p.1, pv p.2) (List.mem_map.2 ⟨p, hp, rfl⟩)), tickF, hl]
    refine ⟨[.many (flat [tblC d s m, .one m o', .many U'])], [.one r it'], .re (H' := [.many (flat [tblC d s m, .one m o', .many U']), .one r it']) (.of_eq (by simp)) (by (repeat (apply zC; · repeat (first | exact zH _ _ | exact zN _ | apply zT))); exact zE _), _, rfl, ?_, ?_⟩
    · exact ⟨m, bs', clk, o', tickL N s.ticks S L, U', R', P', e1, ht, by simp; exact ⟨rfl, rfl⟩⟩
    · rw [e1, er_len, hl, er_len]
  · obtain ⟨k, v⟩ := p
    obtain ⟨eb, x, hmem, hv⟩ := cont_mem hp
    simp only at hv hmem hs
    subst hv
    obtain ⟨A, B, hAB⟩ := List.append_of_mem hmem
    obtain ⟨⟨L1, L2, hL⟩, hstep⟩ := tickL_step hnd hAB hs
    have hmeas : leftN L (k :: S) < leftN L S := leftN_lt (p := (k, eb, x)) (by rw [hL]; simp) hs
    have hA2 : get (cont A) k = none := by
      have := R'.apart
      rw [hAB, cont_keys] at this
      simp only [List.map_append, List.map_cons, List.nodup_append] at this
      exact get_none.2 fun q hq e => this.2.2 q.1 (by rw [← cont_keys]; exact List.mem_map_of_mem hq) k (by simp) e
    rw [hAB] at P'
    obtain ⟨TA, Tx, TB, rfl, h1, h2, h3⟩ := P'.split
    obtain ⟨mb, bsb, clkb, ob, Rb, hbd, rfl⟩ := entR_out h2
    refine ⟨[tblC d s m, .one m o', .many TA, enC eb mb x, .one mb ob, .many TB, .one r it2], .of_eq (by simp), ?_⟩
    have hb2 := hbd
    have hlS := tickL_len N s.ticks S L
    simp only [DEntB] at hb2
    by_cases hdrop : s.ticks ≤ x.age + N
    · have e2 : tick1 N s.ticks x = none := if_pos hdrop
      rw [e2] at hstep
      simp only [List.append_nil] at hstep
      (conv => whnf) <;> repeat' ((first | (show RawRd _ _ _ _; refine RawRd.entry R' I2 0 rfl 1 rfl ?_) | (show RawRd _ _ _ _; refine RawRd.entry R' I2 1 rfl 1 rfl ?_) | (show RawRd _ _ _ _; refine RawRd.entry R' I2 2 rfl 1 rfl ?_) | (show RawRd _ _ _ _; refine RawRd.entry R' I2 3 rfl 1 rfl ?_) | (show RawRd _ _ _ _; refine RawRd.entry R' I2 4 rfl 1 rfl ?_) | (show RawRd _ _ _ _; refine RawRd.entry R' I2 5 rfl 1 rfl ?_) | (show RawRd _ _ _ _; refine RawRd.entry R' I2 6 rfl 1 rfl ?_) | (show RawRd _ _ _ _; refine RawRd.entry R' I2 7 rfl 1 rfl ?_) | (show RawVC _ (builtin Builtin.delete _ _ _ _) _ _ _; refine RawVC.mdel (et := 169) dkK (by decide +kernel) R' 0 rfl k (R'.keys _ hp) (fun bs2 o2 R2 hsub hz => ?_)) | (show RawVC _ (builtin Builtin.delete _ _ _ _) _ _ _; refine RawVC.mdel (et := 169) dkK (by decide +kernel) R' 1 rfl k (R'.keys _ hp) (fun bs2 o2 R2 hsub hz => ?_)) | (show RawVC _ (builtin Builtin.delete _ _ _ _) _ _ _; refine RawVC.mdel (et := 169) dkK (by decide +kernel) R' 2 rfl k (R'.keys _ hp) (fun bs2 o2 R2 hsub hz => ?_)) | (show RawVC _ (builtin Builtin.delete _ _ _ _) _ _ _; refine RawVC.mdel (et := 169) dkK (by decide +kernel) R' 3 rfl k (R'.keys _ hp) (fun bs2 o2 R2 hsub hz => ?_)) | (show RawVC _ (builtin Builtin.delete _ _ _ _) _ _ _; refine RawVC.mdel (et := 169) dkK (by decide +kernel) R' 4 rfl k (R'.keys _ hp) (fun bs2 o2 R2 hsub hz => ?_)) | (show RawVC _ (builtin Builtin.delete _ _ _ _) _ _ _; refine RawVC.mdel (et := 169) dkK (by decide +kernel) R' 5 rfl k (R'.keys _ hp) (fun bs2 o2 R2 hsub hz => ?_)) | (show RawVC _ (builtin Builtin.delete _ _ _ _) _ _ _; refine RawVC.mdel (et := 169) dkK (by decide +kernel) R' 6 rfl k (R'.keys _ hp) (fun bs2 o2 R2 hsub hz => ?_)) | (show RawVC _ (builtin Builtin.delete _ _ _ _) _ _ _; refine RawVC.mdel (et := 169) dkK (by decide +kernel) R' 7 rfl k (R'.keys _ hp) (fun bs2 o2 R2 hsub hz => ?_)) | with_reducible refine bY ?_ | with_reducible refine bN ?_ | refine l1 0 rfl rfl ?_ | refine l1 1 rfl rfl ?_ | refine l1 2 rfl rfl ?_ | refine l1 3 rfl rfl ?_ | refine l1 4 rfl rfl ?_ | refine l1 5 rfl rfl ?_ | refine l1 6 rfl rfl ?_ | refine l1 7 rfl rfl ?_ | refine l1 8 rfl rfl ?_ | refine l1 9 rfl rfl ?_ | refine l1 10 rfl rfl ?_ | refine l1 11 rfl rfl ?_ | refine l1 12 rfl rfl ?_ | refine l1 13 rfl rfl ?_ | refine l2 0 rfl rfl ?_ | refine l2 1 rfl rfl ?_ | refine l2 2 rfl rfl ?_ | refine l2 3 rfl rfl ?_ | refine l2 4 rfl rfl ?_ | refine l2 5 rfl rfl ?_ | refine l2 6 rfl rfl ?_ | refine l2 7 rfl rfl ?_ | refine l2 8 rfl rfl ?_ | refine l2 9 rfl rfl ?_ | refine l2 10 rfl rfl ?_ | refine l2 11 rfl rfl ?_ | refine l2 12 rfl rfl ?_ | refine l2 13 rfl rfl ?_ | refine l3 0 rfl rfl rfl ?_ | refine l3 1 rfl rfl rfl ?_ | refine l3 2 rfl rfl rfl ?_ | refine l3 3 rfl rfl rfl ?_ | refine l3 4 rfl rfl rfl ?_ | refine l3 5 rfl rfl rfl ?_ | refine l3 6 rfl rfl rfl ?_ | refine l3 7 rfl rfl rfl ?_ | refine l3 8 rfl rfl rfl ?_ | refine l3 9 rfl rfl rfl ?_ | refine l3 10 rfl rfl rfl ?_ | refine l3 11 rfl rfl rfl ?_ | refine l3 12 rfl rfl rfl ?_ | refine l3 13 rfl rfl rfl ?_ | refine dY (by omega) ?_ | refine dN (by omega) ?_ | refine eY (by omega) ?_ | refine eN (by omega) ?_ | refine nY (by omega) ?_ | refine nN (by omega) ?_ | refine BV.not ?_ | refine tY (by assumption) ?_ | refine tN (by assumption) ?_ | refine dY (by assumption) ?_ | refine dN (by assumption) ?_ | refine sU (by omega) ?_ | refine aI (by omega) (by omega) ?_ | refine aW (by omega) (by omega) ?_ | refine aB (by omega) (by omega) ?_ | refine nV rfl ?_ | refine cV rfl ?_ | refine .nn (by omega) ?_ | refine appLI ?_ | refine bO ?_ ?_ | intro b) <;> (conv => whnf))
      have e3 : del (cont (tickL N s.ticks S L)) k = cont (tickL N s.ticks (k :: S) L) := by
        rw [hstep, hAB]
        have : cont (A ++ (k, eb, x) :: B) = cont A ++ (k, ptr eb) :: cont B := by simp [cont, pv]
        rw [this, del_split hA2]; simp [cont]
      rw [e3] at R2 hz
      have e4 : (tickL N s.ticks S L).length = (tickL N s.ticks (k :: S) L).length + 1 := by rw [hstep, hAB]; simp; omega
      refine ⟨(k :: S, bs2, o2, it2, TA ++ TB), _, hmeas, ⟨R2, I2.sub hsub hz, by simp only [hstep]; exact h1.app h3⟩, ?_, .re (H' := [.one b (.cells #[u32 k.src, u32 k.dst, i64 k.proto, i64 k.id] 168 (0, 0)), tblC d s m, .one m o2, .many (TA ++ TB), .one r it2, enC eb mb { x with age := x.age + N }, .one mb ob]) ?_ (by (repeat (apply zC; · repeat (first | exact zH _ _ | exact zN _ | apply zT))); exact zE _)⟩
      · refine ⟨?_, (by repeat' (first | exact trivial | rfl | refine ⟨?_, ?_⟩))⟩
        simp only [look]
        simp
        omega
      · simp only [flat_one, flat_many, flat_nil, List.append_nil]
        exact .cons _ (.cons _ (.cons _ (perm_out TA [_, _] TB [_])))
    · have e2 : tick1 N s.ticks x = some { x with age := x.age + N } := if_neg hdrop
      rw [e2] at hstep
      simp only at hstep
      (conv => whnf) <;> repeat' ((first | (show RawRd _ _ _ _; refine RawRd.entry R' I2 0 rfl 1 rfl ?_) | (show RawRd _ _ _ _; refine RawRd.entry R' I2 1 rfl 1 rfl ?_) | (show RawRd _ _ _ _; refine RawRd.entry R' I2 2 rfl 1 rfl ?_) | (show RawRd _ _ _ _; refine RawRd.entry R' I2 3 rfl 1 rfl ?_) | (show RawRd _ _ _ _; refine RawRd.entry R' I2 4 rfl 1 rfl ?_) | (show RawRd _ _ _ _; refine RawRd.entry R' I2 5 rfl 1 rfl ?_) | (show RawRd _ _ _ _; refine RawRd.entry R' I2 6 rfl 1 rfl ?_) | (show RawRd _ _ _ _; refine RawRd.entry R' I2 7 rfl 1 rfl ?_) | with_reducible refine bY ?_ | with_reducible refine bN ?_ | refine l1 0 rfl rfl ?_ | refine l1 1 rfl rfl ?_ | refine l1 2 rfl rfl ?_ | refine l1 3 rfl rfl ?_ | refine l1 4 rfl rfl ?_ | refine l1 5 rfl rfl ?_ | refine l1 6 rfl rfl ?_ | refine l1 7 rfl rfl ?_ | refine l1 8 rfl rfl ?_ | refine l1 9 rfl rfl ?_ | refine l1 10 rfl rfl ?_ | refine l1 11 rfl rfl ?_ | refine l1 12 rfl rfl ?_ | refine l1 13 rfl rfl ?_ | refine l2 0 rfl rfl ?_ | refine l2 1 rfl rfl ?_ | refine l2 2 rfl rfl ?_ | refine l2 3 rfl rfl ?_ | refine l2 4 rfl rfl ?_ | refine l2 5 rfl rfl ?_ | refine l2 6 rfl rfl ?_ | refine l2 7 rfl rfl ?_ | refine l2 8 rfl rfl ?_ | refine l2 9 rfl rfl ?_ | refine l2 10 rfl rfl ?_ | refine l2 11 rfl rfl ?_ | refine l2 12 rfl rfl ?_ | refine l2 13 rfl rfl ?_ | refine l3 0 rfl rfl rfl ?_ | refine l3 1 rfl rfl rfl ?_ | refine l3 2 rfl rfl rfl ?_ | refine l3 3 rfl rfl rfl ?_ | refine l3 4 rfl rfl rfl ?_ | refine l3 5 rfl rfl rfl ?_ | refine l3 6 rfl rfl rfl ?_ | refine l3 7 rfl rfl rfl ?_ | refine l3 8 rfl rfl rfl ?_ | refine l3 9 rfl rfl rfl ?_ | refine l3 10 rfl rfl rfl ?_ | refine l3 11 rfl rfl rfl ?_ | refine l3 12 rfl rfl rfl ?_ | refine l3 13 rfl rfl rfl ?_ | refine dY (by omega) ?_ | refine dN (by omega) ?_ | refine eY (by omega) ?_ | refine eN (by omega) ?_ | refine nY (by omega) ?_ | refine nN (by omega) ?_ | refine BV.not ?_ | refine tY (by assumption) ?_ | refine tN (by assumption) ?_ | refine dY (by assumption) ?_ | refine dN (by assumption) ?_ | refine sU (by omega) ?_ | refine aI (by omega) (by omega) ?_ | refine aW (by omega) (by omega) ?_ | refine aB (by omega) (by omega) ?_ | refine nV rfl ?_ | refine cV rfl ?_ | refine .nn (by omega) ?_ | refine appLI ?_ | refine bO ?_ ?_ | intro b) <;> (conv => whnf))
      have e3 : cont (tickL N s.ticks S L) = cont (tickL N s.ticks (k :: S) L) := by rw [hstep, hAB]; simp [cont, pv]
      rw [e3] at R' I2
      have e4 : (tickL N s.ticks S L).length = (tickL N s.ticks (k :: S) L).length := by rw [hstep, hAB]; simp
      have hq : Ptrs DEntQ (tickL N s.ticks (k :: S) L) (TA ++ ([(eb, .cells #[.map (some mb), i64 x.all, i64 (x.age + N)] 171 (0, 0)), (mb, ob)] ++ TB)) := by
        rw [hstep, List.append_assoc]
        exact h1.app (.cons (entR_in (x := { x with age := x.age + N }) Rb (by simp only [DEntB]; omega)) h3)
      refine ⟨(k :: S, bs', o', it2, _), _, hmeas, ⟨R', I2.forget, hq⟩, ?_, .re (H' := [.one b (.cells #[u32 k.src, u32 k.dst, i64 k.proto, i64 k.id] 168 (0, 0)), tblC d s m, .one m o', .many (TA ++ ([(eb, .cells #[.map (some mb), i64 x.all, i64 (x.age + N)] 171 (0, 0)), (mb, ob)] ++ TB)), .one r it2]) ?_ (by (repeat (apply zC; · repeat (first | exact zH _ _ | exact zN _ | apply zT))); exact zE _)⟩
      · refine ⟨?_, (by repeat' (first | exact trivial | rfl | refine ⟨?_, ?_⟩))⟩
        simp only [look]
        simp [e4]
        rfl
      · refine .of_eq ?_
        simp

theorem fLen_spec (d : Nat) (s : Frags) (T : List Ent) (R : FragR d s T) : Spec Tryz.prog 35 [ptr d] [.many T] (Gives (i64 s.l.length) [.many T]) := by
  obtain ⟨m, bs, clk, o, L, U, RM, RP, hl, ht, rfl⟩ := R.out
  refine Spec.many (pre := [tblC d s m, .one m o, .many U]) ?_ (by simp)
  (refine spec_of Tryz.func35 (by decide +kernel) (Nat.le_of_ble_eq_true rfl) ?_; conv => whnf)
  (conv => whnf) <;> repeat' ((first | (show RawRd _ _ _ _; refine RawRd.lenm (kt := 168) (et := 169) (by decide +kernel) RM 1 rfl (n := (s.l.length : Int)) (by rw [List.length_map, hl, er_len]) ?_) | with_reducible refine bY ?_ | with_reducible refine bN ?_ | refine l1 0 rfl rfl ?_ | refine l1 1 rfl rfl ?_ | refine l1 2 rfl rfl ?_ | refine l1 3 rfl rfl ?_ | refine l1 4 rfl rfl ?_ | refine l1 5 rfl rfl ?_ | refine l1 6 rfl rfl ?_ | refine l1 7 rfl rfl ?_ | refine l1 8 rfl rfl ?_ | refine l1 9 rfl rfl ?_ | refine l1 10 rfl rfl ?_ | refine l1 11 rfl rfl ?_ | refine l1 12 rfl rfl ?_ | refine l1 13 rfl rfl ?_ | refine l2 0 rfl rfl ?_ | refine l2 1 rfl rfl ?_ | refine l2 2 rfl rfl ?_ | refine l2 3 rfl rfl ?_ | refine l2 4 rfl rfl ?_ | refine l2 5 rfl rfl ?_ | refine l2 6 rfl rfl ?_ | refine l2 7 rfl rfl ?_ | refine l2 8 rfl rfl ?_ | refine l2 9 rfl rfl ?_ | refine l2 10 rfl rfl ?_ | refine l2 11 rfl rfl ?_ | refine l2 12 rfl rfl ?_ | refine l2 13 rfl rfl ?_ | refine l3 0 rfl rfl rfl ?_ | refine l3 1 rfl rfl rfl ?_ | refine l3 2 rfl rfl rfl ?_ | refine l3 3 rfl rfl rfl ?_ | refine l3 4 rfl rfl rfl ?_ | refine l3 5 rfl rfl rfl ?_ | refine l3 6 rfl rfl rfl ?_ | refine l3 7 rfl rfl rfl ?_ | refine l3 8 rfl rfl rfl ?_ | refine l3 9 rfl rfl rfl ?_ | refine l3 10 rfl rfl rfl ?_ | refine l3 11 rfl rfl rfl ?_ | refine l3 12 rfl rfl rfl ?_ | refine l3 13 rfl rfl rfl ?_ | refine dY (by omega) ?_ | refine dN (by omega) ?_ | refine eY (by omega) ?_ | refine eN (by omega) ?_ | refine nY (by omega) ?_ | refine nN (by omega) ?_ | refine BV.not ?_ | refine tY (by assumption) ?_ | refine tN (by assumption) ?_ | refine dY (by assumption) ?_ | refine dN (by assumption) ?_ | refine sU (by omega) ?_ | refine aI (by omega) (by omega) ?_ | refine aW (by omega) (by omega) ?_ | refine aB (by omega) (by omega) ?_ | refine nV rfl ?_ | refine cV rfl ?_ | refine .nn (by omega) ?_ | refine appLI ?_ | refine bO ?_ ?_ | intro b) <;> (conv => whnf))
  exact ⟨[.many _], [], .re (H' := [.many (flat [tblC d s m, .one m o, .many U])]) (.of_eq (by simp)) (by (repeat (apply zC; · repeat (first | exact zH _ _ | exact zN _ | apply zT))); exact zE _), rfl, rfl⟩
end Go.Sv
