/- Datagrams that come in parts: a part more. -/
import Derived.Test.YtccofnngpijihaaGreatSvFrag
import Derived.Test.YtccofnngpijihaaGreatProg
set_option linter.all false
namespace Go.Sv
open Go.Proofs
set_option maxRecDepth 100000
set_option maxHeartbeats 20000000
set_option linter.unusedVariables false

structure Frags where
  (most ticks : Int)
  l : List (DKey × DEnt)

def fill1 (all : Int) (l : List (Int × UInt8)) (a : Int) (c : UInt8) : List (Int × UInt8) :=
  if (get l a).isSome then l else if all = 0 ∨ a < all then put l a c else l
def fillN (all off : Int) (body : ByteArray) (l : List (Int × UInt8)) : Nat → List (Int × UInt8)
  | 0 => l
  | n + 1 => fill1 all (fillN all off body l n) (off + n) (by8 body n)

def DEntB (x : DEnt) : Prop := (0 ≤ x.all ∧ x.all ≤ 4000) ∧ (0 ≤ x.age ∧ x.age ≤ 100000)
def DEntQ (b : Nat) (x : DEnt) (T : List Ent) : Prop := DEntR b x T ∧ DEntB x
def pv (q : Nat × DEnt) : Value := ptr q.1

/-- The memory of a table. -/
def FragR (d : Nat) (s : Frags) (T : List Ent) : Prop := ∃ m bs clk o L U, MapR dkV dkOk (L.map fun p : DKey × Nat × DEnt => (p.1, pv p.2)) bs clk o ∧ Ptrs DEntQ L U ∧ s.l = L.map (fun p => (p.1, p.2.2)) ∧ (1 ≤ s.ticks ∧ s.ticks ≤ 100000) ∧
  T = (d, .cells #[i64 s.most, i64 s.ticks, .map (some m)] 96 (0, 0)) :: (m, o) :: U

def ipKey (h : IpH) : DKey := ⟨h.src, h.dst, h.proto, h.id⟩
def ent0 : DEnt := ⟨[], 0, 0⟩
def fullF (x : DEnt) (h : IpH) (body : ByteArray) : DEnt :=
  if h.more = false ∧ x.all = 0 then { x with all := h.off + body.size, bytes := x.bytes.filter fun p => decide (p.1 < h.off + body.size) } else x
def lastF (x : DEnt) (h : IpH) (body : ByteArray) : DEnt := { fullF x h body with bytes := fillN (fullF x h body).all h.off body (fullF x h body).bytes body.size }
def finF (s : Frags) (x : DEnt) (h : IpH) (body : ByteArray) : Frags × ByteArray × Bool × Int :=
  match wholeF (lastF x h body) with
  | some w => ({ s with l := del s.l (ipKey h) }, w, true, 0)
  | none => ({ s with l := put s.l (ipKey h) (lastF x h body) }, ⟨#[]⟩, false, 0)
def addF (s : Frags) (h : IpH) (body : ByteArray) : Frags × ByteArray × Bool × Int :=
  if h.more = false ∧ h.off ≤ 0 then (s, body, true, 0)
  else if body.size = 0 ∨ (h.more = true ∧ (body.size : Int) % 8 ≠ 0) ∨ h.off < 0 then (s, ⟨#[]⟩, false, 3)
  else if 2000 < (body.size : Int) ∨ 2000 - (body.size : Int) < h.off then ({ s with l := del s.l (ipKey h) }, ⟨#[]⟩, false, 5)
  else match get s.l (ipKey h) with
    | some x => finF s x h body
    | none => if s.most ≤ s.l.length then (s, ⟨#[]⟩, false, 10) else finF { s with l := put s.l (ipKey h) ent0 } ent0 h body

theorem empty_of (s : ByteArray) (h : s.size = 0) : s = ⟨#[]⟩ := by
  obtain ⟨a⟩ := s
  have : a.size = 0 := h
  have : a = #[] := Array.eq_empty_of_size_eq_zero this
  rw [this]
theorem ne_empty (s : ByteArray) (h : s.size ≠ 0) : ¬ s = ⟨#[]⟩ := fun e => h (by rw [e]; rfl)

/-- The look-up of a pointer, in a list of things. -/
theorem pv_get {L : List (DKey × Nat × DEnt)} {k : DKey} : get (L.map fun p : DKey × Nat × DEnt => (p.1, pv p.2)) k = (get L k).map pv := map_get pv L k
theorem er_get {L : List (DKey × Nat × DEnt)} {k : DKey} : get (L.map fun p : DKey × Nat × DEnt => (p.1, p.2.2)) k = (get L k).map Prod.snd := map_get Prod.snd L k

theorem del_pv {L : List (DKey × Nat × DEnt)} {k : DKey} : del (L.map fun p : DKey × Nat × DEnt => (p.1, pv p.2)) k = (del L k).map fun p : DKey × Nat × DEnt => (p.1, pv p.2) := (map_del pv L k).symm

abbrev tblC (d : Nat) (s : Frags) (m : Nat) : Chunk := .one d (.cells #[i64 s.most, i64 s.ticks, .map (some m)] 96 (0, 0))

section
variable (d : Nat) (s : Frags) (h : IpH) (body : ByteArray) (m : Nat) (bs : List Nat) (clk : Nat) (o : Obj) (L : List (DKey × Nat × DEnt)) (U : List Ent)
  (RM : MapR dkV dkOk (L.map fun p : DKey × Nat × DEnt => (p.1, pv p.2)) bs clk o)
  (hk : dkOk (ipKey h)) (ho : -100000 ≤ h.off ∧ h.off ≤ 100000) (hb : body.size ≤ 100000)

theorem Add_1 (c1 : h.more = false) (c2 : h.off ≤ 0) : Spec Tryz.prog 49 [ptr d, .agg h.vals.toArray, .string body] [tblC d s m, .one m o, .many U] (Gives (.tuple #[.string body, .bool true, i64 0]) [tblC d s m, .one m o, .many U]) := by
  (refine spec_of Tryz.func49 (by decide +kernel) (Nat.le_of_ble_eq_true rfl) ?_; conv => whnf)
  (conv => whnf) <;> repeat' ((first | with_reducible refine bY ?_ | with_reducible refine bN ?_ | refine l1 0 rfl rfl ?_ | refine l1 1 rfl rfl ?_ | refine l1 2 rfl rfl ?_ | refine l1 3 rfl rfl ?_ | refine l1 4 rfl rfl ?_ | refine l1 5 rfl rfl ?_ | refine l1 6 rfl rfl ?_ | refine l1 7 rfl rfl ?_ | refine l1 8 rfl rfl ?_ | refine l1 9 rfl rfl ?_ | refine l1 10 rfl rfl ?_ | refine l1 11 rfl rfl ?_ | refine l1 12 rfl rfl ?_ | refine l1 13 rfl rfl ?_ | refine l2 0 rfl rfl ?_ | refine l2 1 rfl rfl ?_ | refine l2 2 rfl rfl ?_ | refine l2 3 rfl rfl ?_ | refine l2 4 rfl rfl ?_ | refine l2 5 rfl rfl ?_ | refine l2 6 rfl rfl ?_ | refine l2 7 rfl rfl ?_ | refine l2 8 rfl rfl ?_ | refine l2 9 rfl rfl ?_ | refine l2 10 rfl rfl ?_ | refine l2 11 rfl rfl ?_ | refine l2 12 rfl rfl ?_ | refine l2 13 rfl rfl ?_ | refine l3 0 rfl rfl rfl ?_ | refine l3 1 rfl rfl rfl ?_ | refine l3 2 rfl rfl rfl ?_ | refine l3 3 rfl rfl rfl ?_ | refine l3 4 rfl rfl rfl ?_ | refine l3 5 rfl rfl rfl ?_ | refine l3 6 rfl rfl rfl ?_ | refine l3 7 rfl rfl rfl ?_ | refine l3 8 rfl rfl rfl ?_ | refine l3 9 rfl rfl rfl ?_ | refine l3 10 rfl rfl rfl ?_ | refine l3 11 rfl rfl rfl ?_ | refine l3 12 rfl rfl rfl ?_ | refine l3 13 rfl rfl rfl ?_ | refine dY (by omega) ?_ | refine dN (by omega) ?_ | refine eY (by omega) ?_ | refine eN (by omega) ?_ | refine nY (by omega) ?_ | refine nN (by omega) ?_ | refine BV.not ?_ | refine tY (by assumption) ?_ | refine tN (by assumption) ?_ | refine dY (by assumption) ?_ | refine dN (by assumption) ?_ | refine sU (by omega) ?_ | refine aI (by omega) (by omega) ?_ | refine aW (by omega) (by omega) ?_ | refine aB (by omega) (by omega) ?_ | refine nV rfl ?_ | refine cV rfl ?_ | refine .nn (by omega) ?_ | refine appLI ?_ | refine bO ?_ ?_ | intro b | refine BV.dec (fun hq => ?_) (fun hq => ?_) | refine BV.eq (fun hq => ?_) (fun hq => ?_) | refine BV.ne (fun hq => ?_) (fun hq => ?_) | refine BV.mk (fun hq => ?_) (fun hq => ?_)) <;> (conv => whnf))
  exact ⟨_, _, (by (repeat (apply zC; · repeat (first | exact zH _ _ | exact zN _ | apply zT))); exact zE _), rfl, rfl⟩

include RM hk ho hb
theorem Add_2 (c1 : ¬(h.more = false ∧ h.off ≤ 0)) (c2 : body.size = 0 ∨ (h.more = true ∧ (body.size : Int) % 8 ≠ 0) ∨ h.off < 0) :
    Spec Tryz.prog 49 [ptr d, .agg h.vals.toArray, .string body] [tblC d s m, .one m o, .many U] (Gives (.tuple #[.string ⟨#[]⟩, .bool false, i64 3]) [tblC d s m, .one m o, .many U]) := by
  (refine spec_of Tryz.func49 (by decide +kernel) (Nat.le_of_ble_eq_true rfl) ?_; conv => whnf)
  have hz0 : body = ⟨#[]⟩ → body.size = 0 := fun e => by rw [e]; rfl
  have hz1 : body.size = 0 → body = ⟨#[]⟩ := empty_of body
  (conv => whnf) <;> repeat' ((first | (show JoinVC _ _ _ _ _; refine jT ?_) | (show RawRd _ _ _ _; refine RawRd.look (et := 169) dkK (by decide +kernel) (z := .pointer none) ⟨_, rfl, rfl⟩ RM 0 rfl (ipKey h) hk ?_) | (show RawRd _ _ _ _; refine RawRd.look (et := 169) dkK (by decide +kernel) (z := .pointer none) ⟨_, rfl, rfl⟩ RM 1 rfl (ipKey h) hk ?_) | (show RawRd _ _ _ _; refine RawRd.look (et := 169) dkK (by decide +kernel) (z := .pointer none) ⟨_, rfl, rfl⟩ RM 2 rfl (ipKey h) hk ?_) | (show RawRd _ _ _ _; refine RawRd.look (et := 169) dkK (by decide +kernel) (z := .pointer none) ⟨_, rfl, rfl⟩ RM 3 rfl (ipKey h) hk ?_) | (show RawRd _ _ _ _; refine RawRd.look (et := 169) dkK (by decide +kernel) (z := .pointer none) ⟨_, rfl, rfl⟩ RM 4 rfl (ipKey h) hk ?_) | (show RawRd _ _ _ _; refine RawRd.look (et := 169) dkK (by decide +kernel) (z := .pointer none) ⟨_, rfl, rfl⟩ RM 5 rfl (ipKey h) hk ?_) | (show RawRd _ _ _ _; refine RawRd.look (et := 169) dkK (by decide +kernel) (z := .pointer none) ⟨_, rfl, rfl⟩ RM 6 rfl (ipKey h) hk ?_) | (show RawRd _ _ _ _; refine RawRd.look (et := 169) dkK (by decide +kernel) (z := .pointer none) ⟨_, rfl, rfl⟩ RM 7 rfl (ipKey h) hk ?_) | with_reducible refine bY ?_ | with_reducible refine bN ?_ | refine l1 0 rfl rfl ?_ | refine l1 1 rfl rfl ?_ | refine l1 2 rfl rfl ?_ | refine l1 3 rfl rfl ?_ | refine l1 4 rfl rfl ?_ | refine l1 5 rfl rfl ?_ | refine l1 6 rfl rfl ?_ | refine l1 7 rfl rfl ?_ | refine l1 8 rfl rfl ?_ | refine l1 9 rfl rfl ?_ | refine l1 10 rfl rfl ?_ | refine l1 11 rfl rfl ?_ | refine l1 12 rfl rfl ?_ | refine l1 13 rfl rfl ?_ | refine l2 0 rfl rfl ?_ | refine l2 1 rfl rfl ?_ | refine l2 2 rfl rfl ?_ | refine l2 3 rfl rfl ?_ | refine l2 4 rfl rfl ?_ | refine l2 5 rfl rfl ?_ | refine l2 6 rfl rfl ?_ | refine l2 7 rfl rfl ?_ | refine l2 8 rfl rfl ?_ | refine l2 9 rfl rfl ?_ | refine l2 10 rfl rfl ?_ | refine l2 11 rfl rfl ?_ | refine l2 12 rfl rfl ?_ | refine l2 13 rfl rfl ?_ | refine l3 0 rfl rfl rfl ?_ | refine l3 1 rfl rfl rfl ?_ | refine l3 2 rfl rfl rfl ?_ | refine l3 3 rfl rfl rfl ?_ | refine l3 4 rfl rfl rfl ?_ | refine l3 5 rfl rfl rfl ?_ | refine l3 6 rfl rfl rfl ?_ | refine l3 7 rfl rfl rfl ?_ | refine l3 8 rfl rfl rfl ?_ | refine l3 9 rfl rfl rfl ?_ | refine l3 10 rfl rfl rfl ?_ | refine l3 11 rfl rfl rfl ?_ | refine l3 12 rfl rfl rfl ?_ | refine l3 13 rfl rfl rfl ?_ | refine dY (by omega) ?_ | refine dN (by omega) ?_ | refine eY (by omega) ?_ | refine eN (by omega) ?_ | refine nY (by omega) ?_ | refine nN (by omega) ?_ | refine BV.not ?_ | refine tY (by assumption) ?_ | refine tN (by assumption) ?_ | refine dY (by assumption) ?_ | refine dN (by assumption) ?_ | refine sU (by omega) ?_ | refine aI (by omega) (by omega) ?_ | refine aW (by omega) (by omega) ?_ | refine aB (by omega) (by omega) ?_ | refine nV rfl ?_ | refine cV rfl ?_ | refine .nn (by omega) ?_ | refine appLI ?_ | refine bO ?_ ?_ | intro b | refine BV.dec (fun hq => ?_) (fun hq => ?_) | refine BV.eq (fun hq => ?_) (fun hq => ?_) | refine BV.ne (fun hq => ?_) (fun hq => ?_) | refine BV.mk (fun hq => ?_) (fun hq => ?_)) <;> (conv => whnf))
  all_goals first | exact ⟨_, _, (by (repeat (apply zC; · repeat (first | exact zH _ _ | exact zN _ | apply zT))); exact zE _), rfl, rfl⟩ | (exfalso; first | exact absurd ⟨‹_›, ‹_›⟩ c1 | (rcases c2 with c | ⟨c, c'⟩ | c <;> first | omega | exact absurd (hz1 c) ‹_› | exact nomatch c.symm.trans ‹h.more = false›))

theorem Add_3 (c1 : ¬(h.more = false ∧ h.off ≤ 0)) (c2 : ¬(body.size = 0 ∨ (h.more = true ∧ (body.size : Int) % 8 ≠ 0) ∨ h.off < 0)) (c3 : 2000 < (body.size : Int) ∨ 2000 - (body.size : Int) < h.off) :
    Spec Tryz.prog 49 [ptr d, .agg h.vals.toArray, .string body] [tblC d s m, .one m o, .many U]
      (Rets fun v A => ∃ bs' o', MapR dkV dkOk ((del L (ipKey h)).map fun p : DKey × Nat × DEnt => (p.1, pv p.2)) bs' clk o' ∧ v = .tuple #[.string ⟨#[]⟩, .bool false, i64 5] ∧ A = [tblC d s m, .one m o', .many U]) := by
  (refine spec_of Tryz.func49 (by decide +kernel) (Nat.le_of_ble_eq_true rfl) ?_; conv => whnf)
  have hz0 : body = ⟨#[]⟩ → body.size = 0 := fun e => by rw [e]; rfl
  have hz1 : body.size = 0 → body = ⟨#[]⟩ := empty_of body
  (conv => whnf) <;> repeat' ((first | (show JoinVC _ _ _ _ _; refine jT ?_) | (show RawRd _ _ _ _; refine RawRd.look (et := 169) dkK (by decide +kernel) (z := .pointer none) ⟨_, rfl, rfl⟩ RM 0 rfl (ipKey h) hk ?_) | (show RawRd _ _ _ _; refine RawRd.look (et := 169) dkK (by decide +kernel) (z := .pointer none) ⟨_, rfl, rfl⟩ RM 1 rfl (ipKey h) hk ?_) | (show RawRd _ _ _ _; refine RawRd.look (et := 169) dkK (by decide +kernel) (z := .pointer none) ⟨_, rfl, rfl⟩ RM 2 rfl (ipKey h) hk ?_) | (show RawRd _ _ _ _; refine RawRd.look (et := 169) dkK (by decide +kernel) (z := .pointer none) ⟨_, rfl, rfl⟩ RM 3 rfl (ipKey h) hk ?_) | (show RawRd _ _ _ _; refine RawRd.look (et := 169) dkK (by decide +kernel) (z := .pointer none) ⟨_, rfl, rfl⟩ RM 4 rfl (ipKey h) hk ?_) | (show RawRd _ _ _ _; refine RawRd.look (et := 169) dkK (by decide +kernel) (z := .pointer none) ⟨_, rfl, rfl⟩ RM 5 rfl (ipKey h) hk ?_) | (show RawRd _ _ _ _; refine RawRd.look (et := 169) dkK (by decide +kernel) (z := .pointer none) ⟨_, rfl, rfl⟩ RM 6 rfl (ipKey h) hk ?_) | (show RawRd _ _ _ _; refine RawRd.look (et := 169) dkK (by decide +kernel) (z := .pointer none) ⟨_, rfl, rfl⟩ RM 7 rfl (ipKey h) hk ?_) | (show RawVC _ (builtin Builtin.delete _ _ _ _) _ _ _; refine RawVC.mdel (et := 169) dkK (by decide +kernel) RM 0 rfl (ipKey h) hk (fun bs2 o2 R2 _ _ => ?_)) | (show RawVC _ (builtin Builtin.delete _ _ _ _) _ _ _; refine RawVC.mdel (et := 169) dkK (by decide +kernel) RM 1 rfl (ipKey h) hk (fun bs2 o2 R2 _ _ => ?_)) | (show RawVC _ (builtin Builtin.delete _ _ _ _) _ _ _; refine RawVC.mdel (et := 169) dkK (by decide +kernel) RM 2 rfl (ipKey h) hk (fun bs2 o2 R2 _ _ => ?_)) | (show RawVC _ (builtin Builtin.delete _ _ _ _) _ _ _; refine RawVC.mdel (et := 169) dkK (by decide +kernel) RM 3 rfl (ipKey h) hk (fun bs2 o2 R2 _ _ => ?_)) | (show RawVC _ (builtin Builtin.delete _ _ _ _) _ _ _; refine RawVC.mdel (et := 169) dkK (by decide +kernel) RM 4 rfl (ipKey h) hk (fun bs2 o2 R2 _ _ => ?_)) | (show RawVC _ (builtin Builtin.delete _ _ _ _) _ _ _; refine RawVC.mdel (et := 169) dkK (by decide +kernel) RM 5 rfl (ipKey h) hk (fun bs2 o2 R2 _ _ => ?_)) | (show RawVC _ (builtin Builtin.delete _ _ _ _) _ _ _; refine RawVC.mdel (et := 169) dkK (by decide +kernel) RM 6 rfl (ipKey h) hk (fun bs2 o2 R2 _ _ => ?_)) | (show RawVC _ (builtin Builtin.delete _ _ _ _) _ _ _; refine RawVC.mdel (et := 169) dkK (by decide +kernel) RM 7 rfl (ipKey h) hk (fun bs2 o2 R2 _ _ => ?_)) | with_reducible refine bY ?_ | with_reducible refine bN ?_ | refine l1 0 rfl rfl ?_ | refine l1 1 rfl rfl ?_ | refine l1 2 rfl rfl ?_ | refine l1 3 rfl rfl ?_ | refine l1 4 rfl rfl ?_ | refine l1 5 rfl rfl ?_ | refine l1 6 rfl rfl ?_ | refine l1 7 rfl rfl ?_ | refine l1 8 rfl rfl ?_ | refine l1 9 rfl rfl ?_ | refine l1 10 rfl rfl ?_ | refine l1 11 rfl rfl ?_ | refine l1 12 rfl rfl ?_ | refine l1 13 rfl rfl ?_ | refine l2 0 rfl rfl ?_ | refine l2 1 rfl rfl ?_ | refine l2 2 rfl rfl ?_ | refine l2 3 rfl rfl ?_ | refine l2 4 rfl rfl ?_ | refine l2 5 rfl rfl ?_ | refine l2 6 rfl rfl ?_ | refine l2 7 rfl rfl ?_ | refine l2 8 rfl rfl ?_ | refine l2 9 rfl rfl ?_ | refine l2 10 rfl rfl ?_ | refine l2 11 rfl rfl ?_ | refine l2 12 rfl rfl ?_ | refine l2 13 rfl rfl ?_ | refine l3 0 rfl rfl rfl ?_ | refine l3 1 rfl rfl rfl ?_ | refine l3 2 rfl rfl rfl ?_ | refine l3 3 rfl rfl rfl ?_ | refine l3 4 rfl rfl rfl ?_ | refine l3 5 rfl rfl rfl ?_ | refine l3 6 rfl rfl rfl ?_ | refine l3 7 rfl rfl rfl ?_ | refine l3 8 rfl rfl rfl ?_ | refine l3 9 rfl rfl rfl ?_ | refine l3 10 rfl rfl rfl ?_ | refine l3 11 rfl rfl rfl ?_ | refine l3 12 rfl rfl rfl ?_ | refine l3 13 rfl rfl rfl ?_ | refine dY (by omega) ?_ | refine dN (by omega) ?_ | refine eY (by omega) ?_ | refine eN (by omega) ?_ | refine nY (by omega) ?_ | refine nN (by omega) ?_ | refine BV.not ?_ | refine tY (by assumption) ?_ | refine tN (by assumption) ?_ | refine dY (by assumption) ?_ | refine dN (by assumption) ?_ | refine sU (by omega) ?_ | refine aI (by omega) (by omega) ?_ | refine aW (by omega) (by omega) ?_ | refine aB (by omega) (by omega) ?_ | refine nV rfl ?_ | refine cV rfl ?_ | refine .nn (by omega) ?_ | refine appLI ?_ | refine bO ?_ ?_ | intro b | refine BV.dec (fun hq => ?_) (fun hq => ?_) | refine BV.eq (fun hq => ?_) (fun hq => ?_) | refine BV.ne (fun hq => ?_) (fun hq => ?_) | refine BV.mk (fun hq => ?_) (fun hq => ?_)) <;> (conv => whnf))
  all_goals first | (rw [del_pv] at R2; exact ⟨_, _, (by (repeat (apply zC; · repeat (first | exact zH _ _ | exact zN _ | apply zT))); exact zE _), _, _, R2, rfl, rfl⟩) | (exfalso; first | omega | exact absurd ⟨‹_›, ‹_›⟩ c1 | exact c2 (.inl (hz0 ‹_›)) | exact c2 (.inr (.inl ⟨‹_›, ‹_›⟩)) | exact c2 (.inr (.inr ‹_›)))
end
end Go.Sv
