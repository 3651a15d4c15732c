/- The law of parts. -/
import Derived.Test.YtccofnngpijihaaGreatSvLaw25
import Derived.Test.YtccofnngpijihaaGreatProg
set_option linter.all false
namespace Go.Sv
open Go.Proofs
set_option maxRecDepth 100000
set_option maxHeartbeats 20000000
set_option linter.unusedVariables false

def cAB (A B : Int) : Cfg := ⟨60, A, 1000, 1000, 32, 4000, 100000, B, 100000⟩
def cntP (A : Int) (k : Nat) : Cnt := ⟨k, 0, 0, 0, 0, 0, 0, 0, max 0 (k - A), 0, 0, 0, k, 0⟩
theorem cntP_0 (A : Int) (hA : 1 ≤ A) : cntP A 0 = .zero := by
  simp only [cntP, Cnt.zero, Cnt.mk.injEq]
  repeat' apply And.intro
  all_goals first | trivial | omega

theorem New_AB (A B : Int) (hA : 1 ≤ A ∧ A ≤ 10) (hB : 1 ≤ B ∧ B ≤ 20) : Spec Tryz.prog 7 [.agg (cAB A B).vals.toArray] []
    (Rets fun v X => ∃ e fl fd td tr tm bd bx bm TF Y, v = .tuple #[ptr e, i64 0] ∧ FragR fd ⟨A, B, []⟩ TF ∧ X = EC (W0 (cAB A B) fd td bd fl) e (cntP A 0) :: .one fl (.map #[] 0) :: .many TF :: tabC td tr tm 60 100000 0 0 :: rootC tr :: blkC bd bx bm 0 :: [.many Y]) := by
  have hc : (cAB A B).ok = true := by
    simp only [Cfg.ok, cAB, Bool.and_eq_true, decide_eq_true_eq]
    repeat' apply And.intro
    all_goals first | trivial | omega | exact decide_eq_true (by omega)
  refine Spec.unpack (spec_mono (Spec.pack (q := fun v T => ∃ e fl fd fm td tr tm bd bx bm, v = .tuple #[ptr e, i64 0] ∧ T = flat (newH (cAB A B) e fl fd fm td tr tm bd bx bm)) (spec_mono (New_yes (cAB A B) hc) ?_)) ?_)
  · intro o X hp
    cases o with
    | panic c => exact hp.elim
    | ret v =>
      obtain ⟨e, fl, fd, fm, td, tr, tm, bd, bx, bm, rfl, rfl⟩ := hp
      exact ⟨e, fl, fd, fm, td, tr, tm, bd, bx, bm, rfl, rfl⟩
  · intro o X hp
    cases o with
    | panic c => exact hp.elim
    | ret v =>
      obtain ⟨T, rfl, e, fl, fd, fm, td, tr, tm, bd, bx, bm, rfl, rfl⟩ := hp
      have hR : FragR fd ⟨A, B, []⟩ [(fd, .cells #[i64 (max 1 (min A 32)), i64 (max 1 (min B 100000)), .map (some fm)] 96 (0, 0)), (fm, .map #[] 0)] := by
        rw [show max 1 (min A 32) = A by omega, show max 1 (min B 100000) = B by omega]
        exact ⟨fm, [], 0, .map #[] 0, [], [], ⟨rfl, rfl, List.nodup_nil, by simp, by simp, by simp⟩, .nil, rfl, ⟨by simp only; omega, by simp only; omega⟩, rfl⟩
      refine ⟨_, rfl, EC (W0 (cAB A B) fd td bd fl) e (cntP A 0) :: .one fl (.map #[] 0) :: .many _ :: tabC td tr tm 60 100000 0 0 :: rootC tr :: blkC bd bx bm 0 :: [.many [(tm, .map #[] 0), (bx, .cells #[ptr bd] 60 (0, 0)), (bm, .cells #[i64 (max 1 (min (cAB A B).bticks 100000))] 3 (0, 0))]], ?_, e, fl, fd, td, tr, tm, bd, bx, bm, _, _, rfl, hR, rfl⟩
      rw [cntP_0 A hA.1]
      show List.Perm (_ :: _ :: _ :: _ :: _ :: _ :: _ :: _ :: _ :: _ :: []) (_ :: _ :: _ :: _ :: _ :: _ :: _ :: _ :: _ :: _ :: [])
      exact .cons _ (.cons _ (.cons _ (.cons _ (.cons _ (.cons _ (List.Perm.swap _ _ _))))))

theorem cntP_next (A : Int) (hA : 1 ≤ A) (k : Nat) (s : Frags) (pk : Pkt) (he : (addF s pk.ip pk.load).2.2.2 = (if A ≤ k then 10 else 0)) :
    (partS { cntP A k with frames := (cntP A k).frames + 1 } s pk).1 = cntP A (k + 1) := by
  unfold partS
  rw [he]
  by_cases hf : A ≤ k
  · rw [if_pos hf, if_pos rfl]
    simp only [cntP, Cnt.mk.injEq]
    repeat' apply And.intro
    all_goals first | trivial | omega
  · rw [if_neg hf, if_neg (by decide), if_neg (by decide)]
    simp only [cntP, Cnt.mk.injEq]
    repeat' apply And.intro
    all_goals first | trivial | omega

theorem hd_ok (k : Nat) (h : k < 13) : (hd k).Ok := by
  have : (hd k).opts.size = 0 := rfl
  simp only [IpH.Ok, this]
  simp only [hd, ip0]
  omega

theorem frame_k (A B : Int) (hA : 1 ≤ A) (fd td bd fl e k : Nat) (hk : k < 13) (s : Frags) (TF : List Ent) (I : PartI A B k s) (R : FragR fd s TF) (c : Cfg) :
    Spec Tryz.prog 9 [ptr e, i64 0, .string (pf k)] [EC (W0 c fd td bd fl) e (cntP A k), .many TF]
      (Rets fun v X => ∃ s' T', PartI A B (k + 1) s' ∧ FragR fd s' T' ∧ X = [EC (W0 c fd td bd fl) e (cntP A (k + 1)), .many T'] ∧ v = zOut) := by
  obtain ⟨p1, p2, p3, p4, p5, p6, p7, p8, p9, p10⟩ := pf_ok k hk
  have hkey : ipKey (partIp (pf k)) = dk k := by rw [ipKey, p6, p7, p8, p9]; rfl
  have I' := I.next p4 p5 hkey
  rw [← p10] at I'
  obtain ⟨i1, i2, i3⟩ := I'
  refine spec_mono (Frame_part (W0 c fd td bd fl) e (cntP A k) s TF R 0 (pf k) (.inl rfl) (by omega) (by omega) p2 p3 (by rw [p4]; simp) ?_ (by rw [p5]; decide) ?_ ?_ i2) ?_
  · rw [hkey]
    simp only [dkOk, dk, allWf, Lit.wf, IntKind.min, IntKind.max, IntKind.signed, IntKind.bits]
    simp; omega
  · simp only [Cnt.ok, cntP]; omega
  · simp only [cntP]; omega
  · intro o X hp
    cases o with
    | panic c => exact hp.elim
    | ret v =>
      obtain ⟨T', rfl, hR, rfl⟩ := hp
      exact ⟨_, T', i1, hR, by rw [cntP_next A hA k s (partPk 0 (pf k)) i3], rfl⟩

theorem Parts_spec (a0 a1 a2 : Int) (w0 : (Lit.int .i64 a0).wf = true) (w1 : (Lit.int .i64 a1).wf = true) (w2 : (Lit.int .i64 a2).wf = true) :
    Spec Tryz.prog 4 [i64 a0, i64 a1, i64 a2] [] (Rets fun u _ => u = .bool true) := by
  simp only [Lit.wf, IntKind.min, IntKind.max, IntKind.signed, IntKind.bits] at w0 w1 w2
  simp at w0 w1 w2
  have hA : 1 ≤ 1 + a0 % 10 ∧ 1 + a0 % 10 ≤ 10 := by omega
  have hB : 1 ≤ 1 + a1 % 20 ∧ 1 + a1 % 20 ≤ 20 := by omega
  (refine spec_of Tryz.func4 (by decide +kernel) (Nat.le_of_ble_eq_true rfl) ?_; conv => whnf)
  (conv => whnf) <;> repeat' ((first | with_reducible refine bY ?_ | with_reducible refine bN ?_ | refine l1 0 rfl rfl ?_ | refine l1 1 rfl rfl ?_ | refine l1 2 rfl rfl ?_ | refine l1 3 rfl rfl ?_ | refine l1 4 rfl rfl ?_ | refine l1 5 rfl rfl ?_ | refine l1 6 rfl rfl ?_ | refine l1 7 rfl rfl ?_ | refine l1 8 rfl rfl ?_ | refine l1 9 rfl rfl ?_ | refine l1 10 rfl rfl ?_ | refine l1 11 rfl rfl ?_ | refine l1 12 rfl rfl ?_ | refine l1 13 rfl rfl ?_ | refine l2 0 rfl rfl ?_ | refine l2 1 rfl rfl ?_ | refine l2 2 rfl rfl ?_ | refine l2 3 rfl rfl ?_ | refine l2 4 rfl rfl ?_ | refine l2 5 rfl rfl ?_ | refine l2 6 rfl rfl ?_ | refine l2 7 rfl rfl ?_ | refine l2 8 rfl rfl ?_ | refine l2 9 rfl rfl ?_ | refine l2 10 rfl rfl ?_ | refine l2 11 rfl rfl ?_ | refine l2 12 rfl rfl ?_ | refine l2 13 rfl rfl ?_ | refine l3 0 rfl rfl rfl ?_ | refine l3 1 rfl rfl rfl ?_ | refine l3 2 rfl rfl rfl ?_ | refine l3 3 rfl rfl rfl ?_ | refine l3 4 rfl rfl rfl ?_ | refine l3 5 rfl rfl rfl ?_ | refine l3 6 rfl rfl rfl ?_ | refine l3 7 rfl rfl rfl ?_ | refine l3 8 rfl rfl rfl ?_ | refine l3 9 rfl rfl rfl ?_ | refine l3 10 rfl rfl rfl ?_ | refine l3 11 rfl rfl rfl ?_ | refine l3 12 rfl rfl rfl ?_ | refine l3 13 rfl rfl rfl ?_ | refine dY (by omega) ?_ | refine dN (by omega) ?_ | refine eY (by omega) ?_ | refine eN (by omega) ?_ | refine nY (by omega) ?_ | refine nN (by omega) ?_ | refine BV.not ?_ | refine tY (by assumption) ?_ | refine tN (by assumption) ?_ | refine dY (by assumption) ?_ | refine dN (by assumption) ?_ | refine sU (by omega) ?_ | refine aI (by omega) (by omega) ?_ | refine aW (by omega) (by omega) ?_ | refine aB (by omega) (by omega) ?_ | refine nV rfl ?_ | refine cV rfl ?_ | refine .nn (by omega) ?_ | refine appLI ?_ | refine bO ?_ ?_ | (show CallVC _ 5 _ _ _ _; refine CallVC.g (zE _) Wide_spec rfl ?_) | (show CallVC _ 6 _ _ _ _; refine CallVC.g (zE _) (Place_spec _ _ (by decide) (by decide) (by omega) (by omega)) rfl ?_) | intro b) <;> (conv => whnf))
  refine CallVC.r (zE _) (New_AB (1 + a0 % 10) (1 + a1 % 20) hA hB) rfl ?_
  rintro _ _ ⟨e, fl, fd, td, tr, tm, bd, bx, bm, TF, Y, rfl, hR, rfl⟩
  (conv => whnf) <;> repeat' ((first | with_reducible refine bY ?_ | with_reducible refine bN ?_ | refine l1 0 rfl rfl ?_ | refine l1 1 rfl rfl ?_ | refine l1 2 rfl rfl ?_ | refine l1 3 rfl rfl ?_ | refine l1 4 rfl rfl ?_ | refine l1 5 rfl rfl ?_ | refine l1 6 rfl rfl ?_ | refine l1 7 rfl rfl ?_ | refine l1 8 rfl rfl ?_ | refine l1 9 rfl rfl ?_ | refine l1 10 rfl rfl ?_ | refine l1 11 rfl rfl ?_ | refine l1 12 rfl rfl ?_ | refine l1 13 rfl rfl ?_ | refine l2 0 rfl rfl ?_ | refine l2 1 rfl rfl ?_ | refine l2 2 rfl rfl ?_ | refine l2 3 rfl rfl ?_ | refine l2 4 rfl rfl ?_ | refine l2 5 rfl rfl ?_ | refine l2 6 rfl rfl ?_ | refine l2 7 rfl rfl ?_ | refine l2 8 rfl rfl ?_ | refine l2 9 rfl rfl ?_ | refine l2 10 rfl rfl ?_ | refine l2 11 rfl rfl ?_ | refine l2 12 rfl rfl ?_ | refine l2 13 rfl rfl ?_ | refine l3 0 rfl rfl rfl ?_ | refine l3 1 rfl rfl rfl ?_ | refine l3 2 rfl rfl rfl ?_ | refine l3 3 rfl rfl rfl ?_ | refine l3 4 rfl rfl rfl ?_ | refine l3 5 rfl rfl rfl ?_ | refine l3 6 rfl rfl rfl ?_ | refine l3 7 rfl rfl rfl ?_ | refine l3 8 rfl rfl rfl ?_ | refine l3 9 rfl rfl rfl ?_ | refine l3 10 rfl rfl rfl ?_ | refine l3 11 rfl rfl rfl ?_ | refine l3 12 rfl rfl rfl ?_ | refine l3 13 rfl rfl rfl ?_ | refine dY (by omega) ?_ | refine dN (by omega) ?_ | refine eY (by omega) ?_ | refine eN (by omega) ?_ | refine nY (by omega) ?_ | refine nN (by omega) ?_ | refine BV.not ?_ | refine tY (by assumption) ?_ | refine tN (by assumption) ?_ | refine dY (by assumption) ?_ | refine dN (by assumption) ?_ | refine sU (by omega) ?_ | refine aI (by omega) (by omega) ?_ | refine aW (by omega) (by omega) ?_ | refine aB (by omega) (by omega) ?_ | refine nV rfl ?_ | refine cV rfl ?_ | refine .nn (by omega) ?_ | refine appLI ?_ | refine bO ?_ ?_ | (show CallVC _ 6 _ _ _ _; refine CallVC.g (zE _) (Place_spec _ _ (by decide) (by decide) (by omega) (by omega)) rfl ?_) | intro b) <;> (conv => whnf))
  refine LoopVC.iter [7, 8, 10] (fun i : Nat × Frags × List Ent => [(11, i64 i.1)])
    (fun i => [EC (W0 (cAB (1 + a0 % 10) (1 + a1 % 20)) fd td bd fl) e (cntP (1 + a0 % 10) i.1), .many i.2.2, .one fl (.map #[] 0), tabC td tr tm 60 100000 0 0, rootC tr, blkC bd bx bm 0, .one b (.cells (cAB (1 + a0 % 10) (1 + a1 % 20)).vals.toArray 23 (0, 0))])
    (fun i => (i.1 : Int) ≤ 1 + a0 % 10 + a2 % 4 ∧ PartI (1 + a0 % 10) (1 + a1 % 20) i.1 i.2.1 ∧ FragR fd i.2.1 i.2.2) (fun i => 14 - i.1) (0, ⟨1 + a0 % 10, 1 + a1 % 20, []⟩, TF) _ ⟨by simp only; omega, PartI.zero (by omega), hR⟩ (by repeat' (first | exact trivial | rfl | refine ⟨?_, ?_⟩)) (by (repeat (apply zC; · repeat (first | exact zH _ _ | exact zN _ | apply zT))); exact zE _) ?_
  conv => whnf
  rintro ⟨k, s, TK⟩ ⟨hk, I, R⟩
  simp only at hk I R ⊢
  by_cases hlt : (k : Int) < 1 + a0 % 10 + a2 % 4
  · (conv => whnf) <;> repeat' ((first | with_reducible refine bY ?_ | with_reducible refine bN ?_ | refine l1 0 rfl rfl ?_ | refine l1 1 rfl rfl ?_ | refine l1 2 rfl rfl ?_ | refine l1 3 rfl rfl ?_ | refine l1 4 rfl rfl ?_ | refine l1 5 rfl rfl ?_ | refine l1 6 rfl rfl ?_ | refine l1 7 rfl rfl ?_ | refine l1 8 rfl rfl ?_ | refine l1 9 rfl rfl ?_ | refine l1 10 rfl rfl ?_ | refine l1 11 rfl rfl ?_ | refine l1 12 rfl rfl ?_ | refine l1 13 rfl rfl ?_ | refine l2 0 rfl rfl ?_ | refine l2 1 rfl rfl ?_ | refine l2 2 rfl rfl ?_ | refine l2 3 rfl rfl ?_ | refine l2 4 rfl rfl ?_ | refine l2 5 rfl rfl ?_ | refine l2 6 rfl rfl ?_ | refine l2 7 rfl rfl ?_ | refine l2 8 rfl rfl ?_ | refine l2 9 rfl rfl ?_ | refine l2 10 rfl rfl ?_ | refine l2 11 rfl rfl ?_ | refine l2 12 rfl rfl ?_ | refine l2 13 rfl rfl ?_ | refine l3 0 rfl rfl rfl ?_ | refine l3 1 rfl rfl rfl ?_ | refine l3 2 rfl rfl rfl ?_ | refine l3 3 rfl rfl rfl ?_ | refine l3 4 rfl rfl rfl ?_ | refine l3 5 rfl rfl rfl ?_ | refine l3 6 rfl rfl rfl ?_ | refine l3 7 rfl rfl rfl ?_ | refine l3 8 rfl rfl rfl ?_ | refine l3 9 rfl rfl rfl ?_ | refine l3 10 rfl rfl rfl ?_ | refine l3 11 rfl rfl rfl ?_ | refine l3 12 rfl rfl rfl ?_ | refine l3 13 rfl rfl rfl ?_ | refine dY (by omega) ?_ | refine dN (by omega) ?_ | refine eY (by omega) ?_ | refine eN (by omega) ?_ | refine nY (by omega) ?_ | refine nN (by omega) ?_ | refine BV.not ?_ | refine tY (by assumption) ?_ | refine tN (by assumption) ?_ | refine dY (by assumption) ?_ | refine dN (by assumption) ?_ | refine sU (by omega) ?_ | refine aI (by omega) (by omega) ?_ | refine aW (by omega) (by omega) ?_ | refine aB (by omega) (by omega) ?_ | refine nV rfl ?_ | refine cV rfl ?_ | refine .nn (by omega) ?_ | refine appLI ?_ | refine bO ?_ ?_ | (show CallVC _ 14 _ _ _ _; refine CallVC.g (zE _) (IP_0 17) rfl ?_) | intro b) <;> (conv => whnf))
    refine CallVC.g (zE _) (part_spec (hd k) b8 (hd_ok k (by omega)) (by decide +kernel)) rfl ?_
    (conv => whnf) <;> repeat' ((first | with_reducible refine bY ?_ | with_reducible refine bN ?_ | refine l1 0 rfl rfl ?_ | refine l1 1 rfl rfl ?_ | refine l1 2 rfl rfl ?_ | refine l1 3 rfl rfl ?_ | refine l1 4 rfl rfl ?_ | refine l1 5 rfl rfl ?_ | refine l1 6 rfl rfl ?_ | refine l1 7 rfl rfl ?_ | refine l1 8 rfl rfl ?_ | refine l1 9 rfl rfl ?_ | refine l1 10 rfl rfl ?_ | refine l1 11 rfl rfl ?_ | refine l1 12 rfl rfl ?_ | refine l1 13 rfl rfl ?_ | refine l2 0 rfl rfl ?_ | refine l2 1 rfl rfl ?_ | refine l2 2 rfl rfl ?_ | refine l2 3 rfl rfl ?_ | refine l2 4 rfl rfl ?_ | refine l2 5 rfl rfl ?_ | refine l2 6 rfl rfl ?_ | refine l2 7 rfl rfl ?_ | refine l2 8 rfl rfl ?_ | refine l2 9 rfl rfl ?_ | refine l2 10 rfl rfl ?_ | refine l2 11 rfl rfl ?_ | refine l2 12 rfl rfl ?_ | refine l2 13 rfl rfl ?_ | refine l3 0 rfl rfl rfl ?_ | refine l3 1 rfl rfl rfl ?_ | refine l3 2 rfl rfl rfl ?_ | refine l3 3 rfl rfl rfl ?_ | refine l3 4 rfl rfl rfl ?_ | refine l3 5 rfl rfl rfl ?_ | refine l3 6 rfl rfl rfl ?_ | refine l3 7 rfl rfl rfl ?_ | refine l3 8 rfl rfl rfl ?_ | refine l3 9 rfl rfl rfl ?_ | refine l3 10 rfl rfl rfl ?_ | refine l3 11 rfl rfl rfl ?_ | refine l3 12 rfl rfl rfl ?_ | refine l3 13 rfl rfl rfl ?_ | refine dY (by omega) ?_ | refine dN (by omega) ?_ | refine eY (by omega) ?_ | refine eN (by omega) ?_ | refine nY (by omega) ?_ | refine nN (by omega) ?_ | refine BV.not ?_ | refine tY (by assumption) ?_ | refine tN (by assumption) ?_ | refine dY (by assumption) ?_ | refine dN (by assumption) ?_ | refine sU (by omega) ?_ | refine aI (by omega) (by omega) ?_ | refine aW (by omega) (by omega) ?_ | refine aB (by omega) (by omega) ?_ | refine nV rfl ?_ | refine cV rfl ?_ | refine .nn (by omega) ?_ | refine appLI ?_ | refine bO ?_ ?_ | intro b) <;> (conv => whnf))
    refine CallVC.r (by (repeat (apply zC; · repeat (first | exact zH _ _ | exact zN _ | apply zT))); exact zE _) (frame_k (1 + a0 % 10) (1 + a1 % 20) (by omega) fd td bd fl e k (by omega) s TK I R _) rfl ?_
    rintro _ _ ⟨s', T', I', R', rfl, rfl⟩
    (conv => whnf) <;> repeat' ((first | with_reducible refine bY ?_ | with_reducible refine bN ?_ | refine l1 0 rfl rfl ?_ | refine l1 1 rfl rfl ?_ | refine l1 2 rfl rfl ?_ | refine l1 3 rfl rfl ?_ | refine l1 4 rfl rfl ?_ | refine l1 5 rfl rfl ?_ | refine l1 6 rfl rfl ?_ | refine l1 7 rfl rfl ?_ | refine l1 8 rfl rfl ?_ | refine l1 9 rfl rfl ?_ | refine l1 10 rfl rfl ?_ | refine l1 11 rfl rfl ?_ | refine l1 12 rfl rfl ?_ | refine l1 13 rfl rfl ?_ | refine l2 0 rfl rfl ?_ | refine l2 1 rfl rfl ?_ | refine l2 2 rfl rfl ?_ | refine l2 3 rfl rfl ?_ | refine l2 4 rfl rfl ?_ | refine l2 5 rfl rfl ?_ | refine l2 6 rfl rfl ?_ | refine l2 7 rfl rfl ?_ | refine l2 8 rfl rfl ?_ | refine l2 9 rfl rfl ?_ | refine l2 10 rfl rfl ?_ | refine l2 11 rfl rfl ?_ | refine l2 12 rfl rfl ?_ | refine l2 13 rfl rfl ?_ | refine l3 0 rfl rfl rfl ?_ | refine l3 1 rfl rfl rfl ?_ | refine l3 2 rfl rfl rfl ?_ | refine l3 3 rfl rfl rfl ?_ | refine l3 4 rfl rfl rfl ?_ | refine l3 5 rfl rfl rfl ?_ | refine l3 6 rfl rfl rfl ?_ | refine l3 7 rfl rfl rfl ?_ | refine l3 8 rfl rfl rfl ?_ | refine l3 9 rfl rfl rfl ?_ | refine l3 10 rfl rfl rfl ?_ | refine l3 11 rfl rfl rfl ?_ | refine l3 12 rfl rfl rfl ?_ | refine l3 13 rfl rfl rfl ?_ | refine dY (by omega) ?_ | refine dN (by omega) ?_ | refine eY (by omega) ?_ | refine eN (by omega) ?_ | refine nY (by omega) ?_ | refine nN (by omega) ?_ | refine BV.not ?_ | refine tY (by assumption) ?_ | refine tN (by assumption) ?_ | refine dY (by assumption) ?_ | refine dN (by assumption) ?_ | refine sU (by omega) ?_ | refine aI (by omega) (by omega) ?_ | refine aW (by omega) (by omega) ?_ | refine aB (by omega) (by omega) ?_ | refine nV rfl ?_ | refine cV rfl ?_ | refine .nn (by omega) ?_ | refine appLI ?_ | refine bO ?_ ?_ | intro b) <;> (conv => whnf))
    exact ⟨(k + 1, s', T'), _, by simp only; omega, ⟨by simp only; omega, I', R'⟩, (by repeat' (first | exact trivial | rfl | refine ⟨?_, ?_⟩)), (by (repeat (apply zC; · repeat (first | exact zH _ _ | exact zN _ | apply zT))); exact zE _)⟩
  · have hlen := I.len
    have hF : (cAB (1 + a0 % 10) (1 + a1 % 20)).frags = 1 + a0 % 10 := rfl
    have hO : (cntP (1 + a0 % 10) k).over = max 0 ((k : Int) - (1 + a0 % 10)) := rfl
    have hG : (cntP (1 + a0 % 10) k).frags = k := rfl
    have hU : (cntP (1 + a0 % 10) k).timed = 0 := rfl
    have hs : s.l.length ≤ 100000 := by omega
    have ht : tickF s (max 0 (min (1 + a1 % 20) 100000)) = { s with l := [] } := by
      rw [show max 0 (min (1 + a1 % 20) 100000) = 1 + a1 % 20 by omega]
      exact I.tick
    (conv => whnf) <;> repeat' ((first | with_reducible refine bY ?_ | with_reducible refine bN ?_ | refine l1 0 rfl rfl ?_ | refine l1 1 rfl rfl ?_ | refine l1 2 rfl rfl ?_ | refine l1 3 rfl rfl ?_ | refine l1 4 rfl rfl ?_ | refine l1 5 rfl rfl ?_ | refine l1 6 rfl rfl ?_ | refine l1 7 rfl rfl ?_ | refine l1 8 rfl rfl ?_ | refine l1 9 rfl rfl ?_ | refine l1 10 rfl rfl ?_ | refine l1 11 rfl rfl ?_ | refine l1 12 rfl rfl ?_ | refine l1 13 rfl rfl ?_ | refine l2 0 rfl rfl ?_ | refine l2 1 rfl rfl ?_ | refine l2 2 rfl rfl ?_ | refine l2 3 rfl rfl ?_ | refine l2 4 rfl rfl ?_ | refine l2 5 rfl rfl ?_ | refine l2 6 rfl rfl ?_ | refine l2 7 rfl rfl ?_ | refine l2 8 rfl rfl ?_ | refine l2 9 rfl rfl ?_ | refine l2 10 rfl rfl ?_ | refine l2 11 rfl rfl ?_ | refine l2 12 rfl rfl ?_ | refine l2 13 rfl rfl ?_ | refine l3 0 rfl rfl rfl ?_ | refine l3 1 rfl rfl rfl ?_ | refine l3 2 rfl rfl rfl ?_ | refine l3 3 rfl rfl rfl ?_ | refine l3 4 rfl rfl rfl ?_ | refine l3 5 rfl rfl rfl ?_ | refine l3 6 rfl rfl rfl ?_ | refine l3 7 rfl rfl rfl ?_ | refine l3 8 rfl rfl rfl ?_ | refine l3 9 rfl rfl rfl ?_ | refine l3 10 rfl rfl rfl ?_ | refine l3 11 rfl rfl rfl ?_ | refine l3 12 rfl rfl rfl ?_ | refine l3 13 rfl rfl rfl ?_ | refine dY (by omega) ?_ | refine dN (by omega) ?_ | refine eY (by omega) ?_ | refine eN (by omega) ?_ | refine nY (by omega) ?_ | refine nN (by omega) ?_ | refine BV.not ?_ | refine tY (by assumption) ?_ | refine tN (by assumption) ?_ | refine dY (by assumption) ?_ | refine dN (by assumption) ?_ | refine sU (by omega) ?_ | refine aI (by omega) (by omega) ?_ | refine aW (by omega) (by omega) ?_ | refine aB (by omega) (by omega) ?_ | refine nV rfl ?_ | refine cV rfl ?_ | refine .nn (by omega) ?_ | refine appLI ?_ | refine bO ?_ ?_ | (show CallVC _ 11 _ _ _ _; refine CallVC.g (by (repeat (apply zC; · repeat (first | exact zH _ _ | exact zN _ | apply zT))); exact zE _) (Sizes_0 (W0 (cAB (1 + a0 % 10) (1 + a1 % 20)) fd td bd fl) e (cntP (1 + a0 % 10) k) s TK R) rfl ?_) | (show CallVC _ 12 _ _ _ _; refine CallVC.g (by (repeat (apply zC; · repeat (first | exact zH _ _ | exact zN _ | apply zT))); exact zE _) (CountsE (W0 (cAB (1 + a0 % 10) (1 + a1 % 20)) fd td bd fl) e (cntP (1 + a0 % 10) k)) rfl ?_) | intro b) <;> (conv => whnf))
    refine CallVC.r (by (repeat (apply zC; · repeat (first | exact zH _ _ | exact zN _ | apply zT))); exact zE _) (eTick_0 (W0 (cAB (1 + a0 % 10) (1 + a1 % 20)) fd td bd fl) e (cntP (1 + a0 % 10) k) (by simp only [Cnt.ok, cntP]; omega) s TK R tr tm bx bm 60 100000 0 (1 + a1 % 20) hs) rfl ?_
    rw [ht]
    rintro _ _ ⟨T', rfl, R'⟩
    (conv => whnf) <;> repeat' ((first | (refine eY (by simp only [cntP, cAB, List.length_nil]; omega) ?_) | with_reducible refine bY ?_ | with_reducible refine bN ?_ | refine l1 0 rfl rfl ?_ | refine l1 1 rfl rfl ?_ | refine l1 2 rfl rfl ?_ | refine l1 3 rfl rfl ?_ | refine l1 4 rfl rfl ?_ | refine l1 5 rfl rfl ?_ | refine l1 6 rfl rfl ?_ | refine l1 7 rfl rfl ?_ | refine l1 8 rfl rfl ?_ | refine l1 9 rfl rfl ?_ | refine l1 10 rfl rfl ?_ | refine l1 11 rfl rfl ?_ | refine l1 12 rfl rfl ?_ | refine l1 13 rfl rfl ?_ | refine l2 0 rfl rfl ?_ | refine l2 1 rfl rfl ?_ | refine l2 2 rfl rfl ?_ | refine l2 3 rfl rfl ?_ | refine l2 4 rfl rfl ?_ | refine l2 5 rfl rfl ?_ | refine l2 6 rfl rfl ?_ | refine l2 7 rfl rfl ?_ | refine l2 8 rfl rfl ?_ | refine l2 9 rfl rfl ?_ | refine l2 10 rfl rfl ?_ | refine l2 11 rfl rfl ?_ | refine l2 12 rfl rfl ?_ | refine l2 13 rfl rfl ?_ | refine l3 0 rfl rfl rfl ?_ | refine l3 1 rfl rfl rfl ?_ | refine l3 2 rfl rfl rfl ?_ | refine l3 3 rfl rfl rfl ?_ | refine l3 4 rfl rfl rfl ?_ | refine l3 5 rfl rfl rfl ?_ | refine l3 6 rfl rfl rfl ?_ | refine l3 7 rfl rfl rfl ?_ | refine l3 8 rfl rfl rfl ?_ | refine l3 9 rfl rfl rfl ?_ | refine l3 10 rfl rfl rfl ?_ | refine l3 11 rfl rfl rfl ?_ | refine l3 12 rfl rfl rfl ?_ | refine l3 13 rfl rfl rfl ?_ | refine dY (by omega) ?_ | refine dN (by omega) ?_ | refine eY (by omega) ?_ | refine eN (by omega) ?_ | refine nY (by omega) ?_ | refine nN (by omega) ?_ | refine BV.not ?_ | refine tY (by assumption) ?_ | refine tN (by assumption) ?_ | refine dY (by assumption) ?_ | refine dN (by assumption) ?_ | refine sU (by omega) ?_ | refine aI (by omega) (by omega) ?_ | refine aW (by omega) (by omega) ?_ | refine aB (by omega) (by omega) ?_ | refine nV rfl ?_ | refine cV rfl ?_ | refine .nn (by omega) ?_ | refine appLI ?_ | refine bO ?_ ?_ | (show CallVC _ 11 _ _ _ _; refine CallVC.g (by (repeat (apply zC; · repeat (first | exact zH _ _ | exact zN _ | apply zT))); exact zE _) (Sizes_0 (W0 (cAB (1 + a0 % 10) (1 + a1 % 20)) fd td bd fl) e _ { s with l := [] } T' R') rfl ?_) | (show CallVC _ 12 _ _ _ _; refine CallVC.g (by (repeat (apply zC; · repeat (first | exact zH _ _ | exact zN _ | apply zT))); exact zE _) (CountsE (W0 (cAB (1 + a0 % 10) (1 + a1 % 20)) fd td bd fl) e _) rfl ?_) | (show CallVC _ 13 _ _ _ _; refine CallVC.g (zE _) awake_spec rfl ?_) | intro b) <;> (conv => whnf))
    exact ⟨[], _, zE _, rfl⟩
end Go.Sv
