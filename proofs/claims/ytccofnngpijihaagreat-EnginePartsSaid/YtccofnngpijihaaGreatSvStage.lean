/- The first stages of a frame. -/
import Derived.Test.YtccofnngpijihaaGreatSvFrame
import Derived.Test.YtccofnngpijihaaGreatProg
set_option linter.all false
namespace Go.Sv
open Go.Proofs
set_option maxRecDepth 100000
set_option maxHeartbeats 20000000
set_option linter.unusedVariables false

/-- A segment's head. -/
structure SegH where
  (src dst seq ack flags win : Int)
  opts : ByteArray
def SegH.vals (h : SegH) : List Value := [i64 h.src, i64 h.dst, u32 h.seq, u32 h.ack, i64 h.flags, i64 h.win, .string h.opts]
def SegH.zero : SegH := ⟨0, 0, 0, 0, 0, 0, ⟨#[]⟩⟩
/-- A flow's name. -/
structure Tup where
  (proto src dst sp dp : Int)
  deriving DecidableEq
def Tup.vals (t : Tup) : List Value := [i64 t.proto, u32 t.src, u32 t.dst, i64 t.sp, i64 t.dp]
def Tup.zero : Tup := ⟨0, 0, 0, 0, 0⟩
def EthH.zero : EthH := ⟨fun _ => 0, 0⟩

/-- A frame under way. -/
structure Pkt where
  side : Int
  data : ByteArray
  eth : EthH
  ip : IpH
  load : ByteArray
  seg : SegH
  body : ByteArray
  t : Tup
  (id dir : Int)
  new : Bool
  f : Option Addr
  (fs ns : Value)
  (err line : Int)
def pktV (p : Pkt) : List Value := [i64 p.side, .string p.data] ++ p.eth.vals ++ p.ip.vals ++ [.string p.load] ++ p.seg.vals ++ [.string p.body] ++ p.t.vals ++ [i64 p.id, i64 p.dir, .bool p.new, .pointer p.f, p.fs, p.ns, i64 p.err, i64 p.line]
def Pkt.new0 (side : Int) (data : ByteArray) : Pkt := ⟨side, data, .zero, .zero, ⟨#[]⟩, .zero, ⟨#[]⟩, .zero, 0, 0, false, none, .slice none 0 0, .slice none 0 0, 0, 0⟩
theorem pkt0_eq (side : Int) (data : ByteArray) : pkt0 side data = pktV (.new0 side data) := rfl

/-- Where a wall's things lie. -/
structure EngP where
  c : Cfg
  rb : Option Addr
  (rn rc : Nat)
  st : Int
  (fr tb bl fl : Nat)
abbrev EC (W : EngP) (e : Nat) (n : Cnt) : Chunk := .one e (.cells (engC W.c W.rb W.rn W.rc W.st W.fr W.tb W.bl W.fl n) 65 (0, 0))
abbrev PC (p : Nat) (pk : Pkt) : Chunk := .one p (.cells (pktV pk).toArray 76 (0, 0))

theorem one_call {H : HL} {K : Value → HL → Prop} {E : List PanicEntry → HL → Prop} {i e off : Nat} {arr : Array Value} {T : TypeId} {x : Int} {l : List Value} (h : nth H i = some (.one e (.cells arr T (0, 0)))) (hx : nth arr.toList off = some (i64 x))
    (h0 : 0 ≤ x) (h1 : x < 9223372036854775807) (hs : setL arr.toList off [i64 (x + 1)] = some l) (k : repK H i (.one e (.cells l.toArray T (0, 0))) (K (.bool false))) : CallVC Tryz.prog 45 [.pointer (some ⟨e, off, none⟩)] H K E :=
  CallVC.a i h (one_spec e off arr T x l hx h0 h1 hs) rfl k

section
variable (W : EngP) (e p : Nat) (n : Cnt) (pk : Pkt)

theorem frame_ok (hs : pk.side = 0 ∨ pk.side = 1) (h0 : 14 ≤ pk.data.size) (h1 : pk.data.size ≤ 3000) :
    Spec Tryz.prog 21 [ptr e, ptr p] [EC W e n, PC p pk] (Gives (.bool true) [EC W e n, PC p { pk with eth := ethOf pk.data, load := sb pk.data 14 pk.data.size }]) := by
  (refine spec_of Tryz.func21 (by decide +kernel) (Nat.le_of_ble_eq_true rfl) ?_; conv => whnf)
  (conv => whnf) <;> repeat' ((first | with_reducible refine bY ?_ | with_reducible refine bN ?_ | refine l1 0 rfl rfl ?_ | refine l1 1 rfl rfl ?_ | refine l1 2 rfl rfl ?_ | refine l1 3 rfl rfl ?_ | refine l1 4 rfl rfl ?_ | refine l1 5 rfl rfl ?_ | refine l1 6 rfl rfl ?_ | refine l1 7 rfl rfl ?_ | refine l1 8 rfl rfl ?_ | refine l1 9 rfl rfl ?_ | refine l1 10 rfl rfl ?_ | refine l1 11 rfl rfl ?_ | refine l1 12 rfl rfl ?_ | refine l1 13 rfl rfl ?_ | refine l2 0 rfl rfl ?_ | refine l2 1 rfl rfl ?_ | refine l2 2 rfl rfl ?_ | refine l2 3 rfl rfl ?_ | refine l2 4 rfl rfl ?_ | refine l2 5 rfl rfl ?_ | refine l2 6 rfl rfl ?_ | refine l2 7 rfl rfl ?_ | refine l2 8 rfl rfl ?_ | refine l2 9 rfl rfl ?_ | refine l2 10 rfl rfl ?_ | refine l2 11 rfl rfl ?_ | refine l2 12 rfl rfl ?_ | refine l2 13 rfl rfl ?_ | refine l3 0 rfl rfl rfl ?_ | refine l3 1 rfl rfl rfl ?_ | refine l3 2 rfl rfl rfl ?_ | refine l3 3 rfl rfl rfl ?_ | refine l3 4 rfl rfl rfl ?_ | refine l3 5 rfl rfl rfl ?_ | refine l3 6 rfl rfl rfl ?_ | refine l3 7 rfl rfl rfl ?_ | refine l3 8 rfl rfl rfl ?_ | refine l3 9 rfl rfl rfl ?_ | refine l3 10 rfl rfl rfl ?_ | refine l3 11 rfl rfl rfl ?_ | refine l3 12 rfl rfl rfl ?_ | refine l3 13 rfl rfl rfl ?_ | refine dY (by omega) ?_ | refine dN (by omega) ?_ | refine eY (by omega) ?_ | refine eN (by omega) ?_ | refine nY (by omega) ?_ | refine nN (by omega) ?_ | refine BV.not ?_ | refine tY (by assumption) ?_ | refine tN (by assumption) ?_ | refine dY (by assumption) ?_ | refine dN (by assumption) ?_ | refine sU (by omega) ?_ | refine aI (by omega) (by omega) ?_ | refine aW (by omega) (by omega) ?_ | refine aB (by omega) (by omega) ?_ | refine nV rfl ?_ | refine cV rfl ?_ | refine .nn (by omega) ?_ | refine appLI ?_ | refine bO ?_ ?_ | (show CallVC _ 46 _ _ _ _; refine CallVC.g (by (repeat (apply zC; · repeat (first | exact zH _ _ | exact zN _ | apply zT))); exact zE _) (eth_Get pk.data h0 h1) rfl ?_) | intro b | refine BV.dec (fun hq => ?_) (fun hq => ?_) | refine BV.eq (fun hq => ?_) (fun hq => ?_) | refine BV.ne (fun hq => ?_) (fun hq => ?_) | refine BV.mk (fun hq => ?_) (fun hq => ?_)) <;> (conv => whnf))
  all_goals first | exact ⟨_, _, (by (repeat (apply zC; · repeat (first | exact zH _ _ | exact zN _ | apply zT))); exact zE _), rfl, rfl⟩ | (exfalso; omega)

theorem other_ip (h : pk.eth.type = 2048) : Spec Tryz.prog 22 [ptr e, ptr p] [EC W e n, PC p pk] (Gives (.bool true) [EC W e n, PC p pk]) := by
  (refine spec_of Tryz.func22 (by decide +kernel) (Nat.le_of_ble_eq_true rfl) ?_; conv => whnf)
  (conv => whnf) <;> repeat' ((first | with_reducible refine bY ?_ | with_reducible refine bN ?_ | refine l1 0 rfl rfl ?_ | refine l1 1 rfl rfl ?_ | refine l1 2 rfl rfl ?_ | refine l1 3 rfl rfl ?_ | refine l1 4 rfl rfl ?_ | refine l1 5 rfl rfl ?_ | refine l1 6 rfl rfl ?_ | refine l1 7 rfl rfl ?_ | refine l1 8 rfl rfl ?_ | refine l1 9 rfl rfl ?_ | refine l1 10 rfl rfl ?_ | refine l1 11 rfl rfl ?_ | refine l1 12 rfl rfl ?_ | refine l1 13 rfl rfl ?_ | refine l2 0 rfl rfl ?_ | refine l2 1 rfl rfl ?_ | refine l2 2 rfl rfl ?_ | refine l2 3 rfl rfl ?_ | refine l2 4 rfl rfl ?_ | refine l2 5 rfl rfl ?_ | refine l2 6 rfl rfl ?_ | refine l2 7 rfl rfl ?_ | refine l2 8 rfl rfl ?_ | refine l2 9 rfl rfl ?_ | refine l2 10 rfl rfl ?_ | refine l2 11 rfl rfl ?_ | refine l2 12 rfl rfl ?_ | refine l2 13 rfl rfl ?_ | refine l3 0 rfl rfl rfl ?_ | refine l3 1 rfl rfl rfl ?_ | refine l3 2 rfl rfl rfl ?_ | refine l3 3 rfl rfl rfl ?_ | refine l3 4 rfl rfl rfl ?_ | refine l3 5 rfl rfl rfl ?_ | refine l3 6 rfl rfl rfl ?_ | refine l3 7 rfl rfl rfl ?_ | refine l3 8 rfl rfl rfl ?_ | refine l3 9 rfl rfl rfl ?_ | refine l3 10 rfl rfl rfl ?_ | refine l3 11 rfl rfl rfl ?_ | refine l3 12 rfl rfl rfl ?_ | refine l3 13 rfl rfl rfl ?_ | refine dY (by omega) ?_ | refine dN (by omega) ?_ | refine eY (by omega) ?_ | refine eN (by omega) ?_ | refine nY (by omega) ?_ | refine nN (by omega) ?_ | refine BV.not ?_ | refine tY (by assumption) ?_ | refine tN (by assumption) ?_ | refine dY (by assumption) ?_ | refine dN (by assumption) ?_ | refine sU (by omega) ?_ | refine aI (by omega) (by omega) ?_ | refine aW (by omega) (by omega) ?_ | refine aB (by omega) (by omega) ?_ | refine nV rfl ?_ | refine cV rfl ?_ | refine .nn (by omega) ?_ | refine appLI ?_ | refine bO ?_ ?_ | intro b | refine BV.dec (fun hq => ?_) (fun hq => ?_) | refine BV.eq (fun hq => ?_) (fun hq => ?_) | refine BV.ne (fun hq => ?_) (fun hq => ?_) | refine BV.mk (fun hq => ?_) (fun hq => ?_)) <;> (conv => whnf))
  all_goals first | exact ⟨_, _, (by (repeat (apply zC; · repeat (first | exact zH _ _ | exact zN _ | apply zT))); exact zE _), rfl, rfl⟩ | (exfalso; omega)

theorem datagram_ok (h : ∀ j, j < 8 → ipBad pk.load j = false) (hm : pk.load.size ≤ 1000000) :
    Spec Tryz.prog 23 [ptr e, ptr p] [EC W e n, PC p pk] (Gives (.bool true) [EC W e n, PC p { pk with ip := ipOf pk.load, load := sb pk.load (ipSize pk.load) (ipAll pk.load) }]) := by
  (refine spec_of Tryz.func23 (by decide +kernel) (Nat.le_of_ble_eq_true rfl) ?_; conv => whnf)
  (conv => whnf) <;> repeat' ((first | with_reducible refine bY ?_ | with_reducible refine bN ?_ | refine l1 0 rfl rfl ?_ | refine l1 1 rfl rfl ?_ | refine l1 2 rfl rfl ?_ | refine l1 3 rfl rfl ?_ | refine l1 4 rfl rfl ?_ | refine l1 5 rfl rfl ?_ | refine l1 6 rfl rfl ?_ | refine l1 7 rfl rfl ?_ | refine l1 8 rfl rfl ?_ | refine l1 9 rfl rfl ?_ | refine l1 10 rfl rfl ?_ | refine l1 11 rfl rfl ?_ | refine l1 12 rfl rfl ?_ | refine l1 13 rfl rfl ?_ | refine l2 0 rfl rfl ?_ | refine l2 1 rfl rfl ?_ | refine l2 2 rfl rfl ?_ | refine l2 3 rfl rfl ?_ | refine l2 4 rfl rfl ?_ | refine l2 5 rfl rfl ?_ | refine l2 6 rfl rfl ?_ | refine l2 7 rfl rfl ?_ | refine l2 8 rfl rfl ?_ | refine l2 9 rfl rfl ?_ | refine l2 10 rfl rfl ?_ | refine l2 11 rfl rfl ?_ | refine l2 12 rfl rfl ?_ | refine l2 13 rfl rfl ?_ | refine l3 0 rfl rfl rfl ?_ | refine l3 1 rfl rfl rfl ?_ | refine l3 2 rfl rfl rfl ?_ | refine l3 3 rfl rfl rfl ?_ | refine l3 4 rfl rfl rfl ?_ | refine l3 5 rfl rfl rfl ?_ | refine l3 6 rfl rfl rfl ?_ | refine l3 7 rfl rfl rfl ?_ | refine l3 8 rfl rfl rfl ?_ | refine l3 9 rfl rfl rfl ?_ | refine l3 10 rfl rfl rfl ?_ | refine l3 11 rfl rfl rfl ?_ | refine l3 12 rfl rfl rfl ?_ | refine l3 13 rfl rfl rfl ?_ | refine dY (by omega) ?_ | refine dN (by omega) ?_ | refine eY (by omega) ?_ | refine eN (by omega) ?_ | refine nY (by omega) ?_ | refine nN (by omega) ?_ | refine BV.not ?_ | refine tY (by assumption) ?_ | refine tN (by assumption) ?_ | refine dY (by assumption) ?_ | refine dN (by assumption) ?_ | refine sU (by omega) ?_ | refine aI (by omega) (by omega) ?_ | refine aW (by omega) (by omega) ?_ | refine aB (by omega) (by omega) ?_ | refine nV rfl ?_ | refine cV rfl ?_ | refine .nn (by omega) ?_ | refine appLI ?_ | refine bO ?_ ?_ | (show CallVC _ 48 _ _ _ _; refine CallVC.r (by (repeat (apply zC; · repeat (first | exact zH _ _ | exact zN _ | apply zT))); exact zE _) (ip_Get pk.load hm) rfl ?_; rintro _ _ ⟨rfl, ⟨k, hk, _, hb, _⟩ | ⟨_, rfl⟩⟩; (rw [h k hk] at hb; cases hb)) | intro b) <;> (conv => whnf))
  all_goals exact ⟨_, _, (by (repeat (apply zC; · repeat (first | exact zH _ _ | exact zN _ | apply zT))); exact zE _), rfl, rfl⟩

theorem whole_yes (h : pk.ip.more = false) (h2 : pk.ip.off = 0) : Spec Tryz.prog 24 [ptr e, ptr p] [EC W e n, PC p pk] (Gives (.bool true) [EC W e n, PC p pk]) := by
  (refine spec_of Tryz.func24 (by decide +kernel) (Nat.le_of_ble_eq_true rfl) ?_; conv => whnf)
  (conv => whnf) <;> repeat' ((first | with_reducible refine bY ?_ | with_reducible refine bN ?_ | refine l1 0 rfl rfl ?_ | refine l1 1 rfl rfl ?_ | refine l1 2 rfl rfl ?_ | refine l1 3 rfl rfl ?_ | refine l1 4 rfl rfl ?_ | refine l1 5 rfl rfl ?_ | refine l1 6 rfl rfl ?_ | refine l1 7 rfl rfl ?_ | refine l1 8 rfl rfl ?_ | refine l1 9 rfl rfl ?_ | refine l1 10 rfl rfl ?_ | refine l1 11 rfl rfl ?_ | refine l1 12 rfl rfl ?_ | refine l1 13 rfl rfl ?_ | refine l2 0 rfl rfl ?_ | refine l2 1 rfl rfl ?_ | refine l2 2 rfl rfl ?_ | refine l2 3 rfl rfl ?_ | refine l2 4 rfl rfl ?_ | refine l2 5 rfl rfl ?_ | refine l2 6 rfl rfl ?_ | refine l2 7 rfl rfl ?_ | refine l2 8 rfl rfl ?_ | refine l2 9 rfl rfl ?_ | refine l2 10 rfl rfl ?_ | refine l2 11 rfl rfl ?_ | refine l2 12 rfl rfl ?_ | refine l2 13 rfl rfl ?_ | refine l3 0 rfl rfl rfl ?_ | refine l3 1 rfl rfl rfl ?_ | refine l3 2 rfl rfl rfl ?_ | refine l3 3 rfl rfl rfl ?_ | refine l3 4 rfl rfl rfl ?_ | refine l3 5 rfl rfl rfl ?_ | refine l3 6 rfl rfl rfl ?_ | refine l3 7 rfl rfl rfl ?_ | refine l3 8 rfl rfl rfl ?_ | refine l3 9 rfl rfl rfl ?_ | refine l3 10 rfl rfl rfl ?_ | refine l3 11 rfl rfl rfl ?_ | refine l3 12 rfl rfl rfl ?_ | refine l3 13 rfl rfl rfl ?_ | refine dY (by omega) ?_ | refine dN (by omega) ?_ | refine eY (by omega) ?_ | refine eN (by omega) ?_ | refine nY (by omega) ?_ | refine nN (by omega) ?_ | refine BV.not ?_ | refine tY (by assumption) ?_ | refine tN (by assumption) ?_ | refine dY (by assumption) ?_ | refine dN (by assumption) ?_ | refine sU (by omega) ?_ | refine aI (by omega) (by omega) ?_ | refine aW (by omega) (by omega) ?_ | refine aB (by omega) (by omega) ?_ | refine nV rfl ?_ | refine cV rfl ?_ | refine .nn (by omega) ?_ | refine appLI ?_ | refine bO ?_ ?_ | intro b | refine BV.dec (fun hq => ?_) (fun hq => ?_) | refine BV.eq (fun hq => ?_) (fun hq => ?_) | refine BV.ne (fun hq => ?_) (fun hq => ?_) | refine BV.mk (fun hq => ?_) (fun hq => ?_)) <;> (conv => whnf))
  all_goals first | exact ⟨_, _, (by (repeat (apply zC; · repeat (first | exact zH _ _ | exact zN _ | apply zT))); exact zE _), rfl, rfl⟩ | (exfalso; omega)

/-- A part of a datagram. -/
def partS (n : Cnt) (s : Frags) (pk : Pkt) : Cnt × Pkt × Bool :=
  if (addF s pk.ip pk.load).2.2.2 = 10 then ({ n with frags := n.frags + 1, over := n.over + 1 }, pk, false)
  else if (addF s pk.ip pk.load).2.2.2 ≠ 0 then ({ n with frags := n.frags + 1, bad := n.bad + 1 }, pk, false)
  else ({ n with frags := n.frags + 1 }, { pk with load := (addF s pk.ip pk.load).2.1, ip := { pk.ip with more := false, off := 0 } }, (addF s pk.ip pk.load).2.2.1)

def Cnt.ok (n : Cnt) : Prop := (0 ≤ n.frames ∧ n.frames ≤ 1000000000) ∧ (0 ≤ n.passed ∧ n.passed ≤ 1000000000) ∧ (0 ≤ n.bad ∧ n.bad ≤ 1000000000) ∧ (0 ≤ n.blocked ∧ n.blocked ≤ 1000000000) ∧ (0 ≤ n.dropped ∧ n.dropped ≤ 1000000000) ∧
  (0 ≤ n.odd ∧ n.odd ≤ 1000000000) ∧ (0 ≤ n.old ∧ n.old ≤ 1000000000) ∧ (0 ≤ n.held ∧ n.held ≤ 1000000000) ∧ (0 ≤ n.over ∧ n.over ≤ 1000000000) ∧ (0 ≤ n.notes ∧ n.notes ≤ 1000000000) ∧ (0 ≤ n.evicted ∧ n.evicted ≤ 1000000000) ∧
  (0 ≤ n.timed ∧ n.timed ≤ 1000000000) ∧ (0 ≤ n.frags ∧ n.frags ≤ 1000000000) ∧ (0 ≤ n.refused ∧ n.refused ≤ 1000000000)

theorem whole_part (s : Frags) (TF : List Ent) (R : FragR W.fr s TF) (h : ¬ (pk.ip.more = false ∧ pk.ip.off = 0)) (hk : dkOk (ipKey pk.ip)) (ho : -100000 ≤ pk.ip.off ∧ pk.ip.off ≤ 100000) (hb : pk.load.size ≤ 100000) (hn : n.ok) :
    Spec Tryz.prog 24 [ptr e, ptr p] [EC W e n, PC p pk, .many TF] (Rets fun v A => ∃ T', A = [EC W e (partS n s pk).1, PC p (partS n s pk).2.1, .many T'] ∧ FragR W.fr (addF s pk.ip pk.load).1 T' ∧ v = .bool (partS n s pk).2.2) := by
  have hnn := hn
  simp only [Cnt.ok] at hnn
  have hA := Add_spec W.fr s TF R pk.ip pk.load hk ho hb
  have hP : partS n s pk = partS n s pk := rfl
  conv at hP => rhs; unfold partS
  generalize partS n s pk = P at hP ⊢
  generalize addF s pk.ip pk.load = r at hA hP ⊢
  obtain ⟨s', w, dn, er⟩ := r
  simp only at hA hP ⊢
  (refine spec_of Tryz.func24 (by decide +kernel) (Nat.le_of_ble_eq_true rfl) ?_; conv => whnf)
  (conv => whnf) <;> repeat' ((first | with_reducible refine bY ?_ | with_reducible refine bN ?_ | refine l1 0 rfl rfl ?_ | refine l1 1 rfl rfl ?_ | refine l1 2 rfl rfl ?_ | refine l1 3 rfl rfl ?_ | refine l1 4 rfl rfl ?_ | refine l1 5 rfl rfl ?_ | refine l1 6 rfl rfl ?_ | refine l1 7 rfl rfl ?_ | refine l1 8 rfl rfl ?_ | refine l1 9 rfl rfl ?_ | refine l1 10 rfl rfl ?_ | refine l1 11 rfl rfl ?_ | refine l1 12 rfl rfl ?_ | refine l1 13 rfl rfl ?_ | refine l2 0 rfl rfl ?_ | refine l2 1 rfl rfl ?_ | refine l2 2 rfl rfl ?_ | refine l2 3 rfl rfl ?_ | refine l2 4 rfl rfl ?_ | refine l2 5 rfl rfl ?_ | refine l2 6 rfl rfl ?_ | refine l2 7 rfl rfl ?_ | refine l2 8 rfl rfl ?_ | refine l2 9 rfl rfl ?_ | refine l2 10 rfl rfl ?_ | refine l2 11 rfl rfl ?_ | refine l2 12 rfl rfl ?_ | refine l2 13 rfl rfl ?_ | refine l3 0 rfl rfl rfl ?_ | refine l3 1 rfl rfl rfl ?_ | refine l3 2 rfl rfl rfl ?_ | refine l3 3 rfl rfl rfl ?_ | refine l3 4 rfl rfl rfl ?_ | refine l3 5 rfl rfl rfl ?_ | refine l3 6 rfl rfl rfl ?_ | refine l3 7 rfl rfl rfl ?_ | refine l3 8 rfl rfl rfl ?_ | refine l3 9 rfl rfl rfl ?_ | refine l3 10 rfl rfl rfl ?_ | refine l3 11 rfl rfl rfl ?_ | refine l3 12 rfl rfl rfl ?_ | refine l3 13 rfl rfl rfl ?_ | refine dY (by omega) ?_ | refine dN (by omega) ?_ | refine eY (by omega) ?_ | refine eN (by omega) ?_ | refine nY (by omega) ?_ | refine nN (by omega) ?_ | refine BV.not ?_ | refine tY (by assumption) ?_ | refine tN (by assumption) ?_ | refine dY (by assumption) ?_ | refine dN (by assumption) ?_ | refine sU (by omega) ?_ | refine aI (by omega) (by omega) ?_ | refine aW (by omega) (by omega) ?_ | refine aB (by omega) (by omega) ?_ | refine nV rfl ?_ | refine cV rfl ?_ | refine .nn (by omega) ?_ | refine appLI ?_ | refine bO ?_ ?_ | refine jT ?_ | (show CallVC _ 49 _ _ _ _; refine CallVC.r (by (repeat (apply zC; · repeat (first | exact zH _ _ | exact zN _ | apply zT))); exact zE _) hA rfl ?_; rintro _ _ ⟨T', rfl, hR', rfl⟩) | (show CallVC _ 45 _ _ _ _; refine one_call (i := 0) rfl rfl (by first | omega | (simp only; omega)) (by first | omega | (simp only; omega)) rfl ?_) | (show CallVC _ 45 _ _ _ _; refine one_call (i := 1) rfl rfl (by first | omega | (simp only; omega)) (by first | omega | (simp only; omega)) rfl ?_) | (show CallVC _ 45 _ _ _ _; refine one_call (i := 2) rfl rfl (by first | omega | (simp only; omega)) (by first | omega | (simp only; omega)) rfl ?_) | (show CallVC _ 45 _ _ _ _; refine one_call (i := 3) rfl rfl (by first | omega | (simp only; omega)) (by first | omega | (simp only; omega)) rfl ?_) | (show CallVC _ 45 _ _ _ _; refine one_call (i := 4) rfl rfl (by first | omega | (simp only; omega)) (by first | omega | (simp only; omega)) rfl ?_) | (show CallVC _ 45 _ _ _ _; refine one_call (i := 5) rfl rfl (by first | omega | (simp only; omega)) (by first | omega | (simp only; omega)) rfl ?_) | (show CallVC _ 45 _ _ _ _; refine one_call (i := 6) rfl rfl (by first | omega | (simp only; omega)) (by first | omega | (simp only; omega)) rfl ?_) | (show CallVC _ 45 _ _ _ _; refine one_call (i := 7) rfl rfl (by first | omega | (simp only; omega)) (by first | omega | (simp only; omega)) rfl ?_) | intro b | refine BV.dec (fun hq => ?_) (fun hq => ?_) | refine BV.eq (fun hq => ?_) (fun hq => ?_) | refine BV.ne (fun hq => ?_) (fun hq => ?_) | refine BV.mk (fun hq => ?_) (fun hq => ?_)) <;> (conv => whnf))
  all_goals first
    | exact absurd ⟨‹_›, ‹_›⟩ h
    | (have e1 : P = _ := hP.trans (if_pos ‹_›); rw [e1]; exact ⟨_, _, (by (repeat (apply zC; · repeat (first | exact zH _ _ | exact zN _ | apply zT))); exact zE _), _, rfl, hR', rfl⟩)
    | (have e1 : P = _ := hP.trans ((if_neg ‹¬ er = 10›).trans (if_pos ‹_›)); rw [e1]; exact ⟨_, _, (by (repeat (apply zC; · repeat (first | exact zH _ _ | exact zN _ | apply zT))); exact zE _), _, rfl, hR', rfl⟩)
    | (have e1 : P = _ := hP.trans ((if_neg ‹¬ er = 10›).trans (if_neg (fun e => e ‹_›))); rw [e1]; exact ⟨_, _, (by (repeat (apply zC; · repeat (first | exact zH _ _ | exact zN _ | apply zT))); exact zE _), _, rfl, hR', rfl⟩)
end

/-! A frame that comes out. -/
def frV (l : List (Int × ByteArray)) : List Value := l.flatMap fun f => [i64 f.1, .string f.2]

theorem emit_spec (p : Nat) (pk : Pkt) (l : List (Int × ByteArray)) (fb : Option Addr) (fc : Nat) (c : Chunk) (own : Own 48 2 l.length (frV l) fb fc c) (hl : l.length ≤ 1000000) (side : Int) (data : ByteArray) (hp : pk.fs = .slice fb l.length fc) :
    Spec Tryz.prog 63 [ptr p, i64 side, .string data] [PC p pk, c] (Rets fun v A => ∃ fb' fc' c', Own 48 2 (l.length + 1) (frV (l ++ [(side, data)])) fb' fc' c' ∧ A = [PC p { pk with fs := .slice fb' (l.length + 1) fc' }, c'] ∧ v = .tuple #[]) := by
  obtain ⟨side_, data_, eth, ip, load, seg, body, t, id, dir, new, f, fs, ns, err, line⟩ := pk
  simp only at hp
  subst hp
  (refine spec_of Tryz.func63 (by decide +kernel) (Nat.le_of_ble_eq_true rfl) ?_; conv => whnf)
  (conv => whnf) <;> repeat' ((first | (show RawVC _ (builtin Builtin.append _ _ _ _) _ _ _; (refine RawVC.app (size := 2) (bytes := 24) (by decide +kernel) own (by omega) (by (repeat (apply zC; · repeat (first | exact zH _ _ | exact zN _ | apply zT))); exact zE _) (by rfl) (by rfl) (fun fb' fc' c' own' => ?_))) | with_reducible refine bY ?_ | with_reducible refine bN ?_ | refine l1 0 rfl rfl ?_ | refine l1 1 rfl rfl ?_ | refine l1 2 rfl rfl ?_ | refine l1 3 rfl rfl ?_ | refine l1 4 rfl rfl ?_ | refine l1 5 rfl rfl ?_ | refine l1 6 rfl rfl ?_ | refine l1 7 rfl rfl ?_ | refine l1 8 rfl rfl ?_ | refine l1 9 rfl rfl ?_ | refine l1 10 rfl rfl ?_ | refine l1 11 rfl rfl ?_ | refine l1 12 rfl rfl ?_ | refine l1 13 rfl rfl ?_ | refine l2 0 rfl rfl ?_ | refine l2 1 rfl rfl ?_ | refine l2 2 rfl rfl ?_ | refine l2 3 rfl rfl ?_ | refine l2 4 rfl rfl ?_ | refine l2 5 rfl rfl ?_ | refine l2 6 rfl rfl ?_ | refine l2 7 rfl rfl ?_ | refine l2 8 rfl rfl ?_ | refine l2 9 rfl rfl ?_ | refine l2 10 rfl rfl ?_ | refine l2 11 rfl rfl ?_ | refine l2 12 rfl rfl ?_ | refine l2 13 rfl rfl ?_ | refine l3 0 rfl rfl rfl ?_ | refine l3 1 rfl rfl rfl ?_ | refine l3 2 rfl rfl rfl ?_ | refine l3 3 rfl rfl rfl ?_ | refine l3 4 rfl rfl rfl ?_ | refine l3 5 rfl rfl rfl ?_ | refine l3 6 rfl rfl rfl ?_ | refine l3 7 rfl rfl rfl ?_ | refine l3 8 rfl rfl rfl ?_ | refine l3 9 rfl rfl rfl ?_ | refine l3 10 rfl rfl rfl ?_ | refine l3 11 rfl rfl rfl ?_ | refine l3 12 rfl rfl rfl ?_ | refine l3 13 rfl rfl rfl ?_ | refine dY (by omega) ?_ | refine dN (by omega) ?_ | refine eY (by omega) ?_ | refine eN (by omega) ?_ | refine nY (by omega) ?_ | refine nN (by omega) ?_ | refine BV.not ?_ | refine tY (by assumption) ?_ | refine tN (by assumption) ?_ | refine dY (by assumption) ?_ | refine dN (by assumption) ?_ | refine sU (by omega) ?_ | refine aI (by omega) (by omega) ?_ | refine aW (by omega) (by omega) ?_ | refine aB (by omega) (by omega) ?_ | refine nV rfl ?_ | refine cV rfl ?_ | refine .nn (by omega) ?_ | refine appLI ?_ | refine bO ?_ ?_ | intro b) <;> (conv => whnf))
  refine ⟨_, _, (by (repeat (apply zC; · repeat (first | exact zH _ _ | exact zN _ | apply zT))); exact zE _), fb', fc', c', ?_, rfl, rfl⟩
  simpa [frV] using own'

theorem pass_spec (W : EngP) (e p : Nat) (n : Cnt) (pk : Pkt) (l : List (Int × ByteArray)) (fb : Option Addr) (fc : Nat) (c : Chunk) (own : Own 48 2 l.length (frV l) fb fc c) (hl : l.length ≤ 1000000) (data : ByteArray) (hp : pk.fs = .slice fb l.length fc)
    (hs : pk.side = 0 ∨ pk.side = 1) (hn : n.ok) :
    Spec Tryz.prog 47 [ptr e, ptr p, .string data] [EC W e n, PC p pk, c] (Rets fun v A => ∃ fb' fc' c', Own 48 2 (l.length + 1) (frV (l ++ [(1 - pk.side, data)])) fb' fc' c' ∧ A = [EC W e { n with passed := n.passed + 1 }, PC p { pk with fs := .slice fb' (l.length + 1) fc' }, c'] ∧ v = .bool false) := by
  simp only [Cnt.ok] at hn
  (refine spec_of Tryz.func47 (by decide +kernel) (Nat.le_of_ble_eq_true rfl) ?_; conv => whnf)
  (conv => whnf) <;> repeat' ((first | with_reducible refine bY ?_ | with_reducible refine bN ?_ | refine l1 0 rfl rfl ?_ | refine l1 1 rfl rfl ?_ | refine l1 2 rfl rfl ?_ | refine l1 3 rfl rfl ?_ | refine l1 4 rfl rfl ?_ | refine l1 5 rfl rfl ?_ | refine l1 6 rfl rfl ?_ | refine l1 7 rfl rfl ?_ | refine l1 8 rfl rfl ?_ | refine l1 9 rfl rfl ?_ | refine l1 10 rfl rfl ?_ | refine l1 11 rfl rfl ?_ | refine l1 12 rfl rfl ?_ | refine l1 13 rfl rfl ?_ | refine l2 0 rfl rfl ?_ | refine l2 1 rfl rfl ?_ | refine l2 2 rfl rfl ?_ | refine l2 3 rfl rfl ?_ | refine l2 4 rfl rfl ?_ | refine l2 5 rfl rfl ?_ | refine l2 6 rfl rfl ?_ | refine l2 7 rfl rfl ?_ | refine l2 8 rfl rfl ?_ | refine l2 9 rfl rfl ?_ | refine l2 10 rfl rfl ?_ | refine l2 11 rfl rfl ?_ | refine l2 12 rfl rfl ?_ | refine l2 13 rfl rfl ?_ | refine l3 0 rfl rfl rfl ?_ | refine l3 1 rfl rfl rfl ?_ | refine l3 2 rfl rfl rfl ?_ | refine l3 3 rfl rfl rfl ?_ | refine l3 4 rfl rfl rfl ?_ | refine l3 5 rfl rfl rfl ?_ | refine l3 6 rfl rfl rfl ?_ | refine l3 7 rfl rfl rfl ?_ | refine l3 8 rfl rfl rfl ?_ | refine l3 9 rfl rfl rfl ?_ | refine l3 10 rfl rfl rfl ?_ | refine l3 11 rfl rfl rfl ?_ | refine l3 12 rfl rfl rfl ?_ | refine l3 13 rfl rfl rfl ?_ | refine dY (by omega) ?_ | refine dN (by omega) ?_ | refine eY (by omega) ?_ | refine eN (by omega) ?_ | refine nY (by omega) ?_ | refine nN (by omega) ?_ | refine BV.not ?_ | refine tY (by assumption) ?_ | refine tN (by assumption) ?_ | refine dY (by assumption) ?_ | refine dN (by assumption) ?_ | refine sU (by omega) ?_ | refine aI (by omega) (by omega) ?_ | refine aW (by omega) (by omega) ?_ | refine aB (by omega) (by omega) ?_ | refine nV rfl ?_ | refine cV rfl ?_ | refine .nn (by omega) ?_ | refine appLI ?_ | refine bO ?_ ?_ | (show CallVC _ 63 _ _ _ _; refine CallVC.r (by (repeat (apply zC; · repeat (first | exact zH _ _ | exact zN _ | apply zT))); exact zE _) (emit_spec p pk l fb fc c own hl _ data hp) rfl ?_; rintro _ _ ⟨fb', fc', c', own', rfl, rfl⟩) | (show CallVC _ 45 _ _ _ _; refine one_call (i := 0) rfl rfl (by first | omega | (simp only; omega)) (by first | omega | (simp only; omega)) rfl ?_) | (show CallVC _ 45 _ _ _ _; refine one_call (i := 1) rfl rfl (by first | omega | (simp only; omega)) (by first | omega | (simp only; omega)) rfl ?_) | (show CallVC _ 45 _ _ _ _; refine one_call (i := 2) rfl rfl (by first | omega | (simp only; omega)) (by first | omega | (simp only; omega)) rfl ?_) | (show CallVC _ 45 _ _ _ _; refine one_call (i := 3) rfl rfl (by first | omega | (simp only; omega)) (by first | omega | (simp only; omega)) rfl ?_) | (show CallVC _ 45 _ _ _ _; refine one_call (i := 4) rfl rfl (by first | omega | (simp only; omega)) (by first | omega | (simp only; omega)) rfl ?_) | (show CallVC _ 45 _ _ _ _; refine one_call (i := 5) rfl rfl (by first | omega | (simp only; omega)) (by first | omega | (simp only; omega)) rfl ?_) | (show CallVC _ 45 _ _ _ _; refine one_call (i := 6) rfl rfl (by first | omega | (simp only; omega)) (by first | omega | (simp only; omega)) rfl ?_) | (show CallVC _ 45 _ _ _ _; refine one_call (i := 7) rfl rfl (by first | omega | (simp only; omega)) (by first | omega | (simp only; omega)) rfl ?_) | intro b) <;> (conv => whnf))
  exact ⟨_, _, (by (repeat (apply zC; · repeat (first | exact zH _ _ | exact zN _ | apply zT))); exact zE _), fb', fc', c', own', rfl, rfl⟩

theorem other_pass (W : EngP) (e p : Nat) (n : Cnt) (pk : Pkt) (l : List (Int × ByteArray)) (fb : Option Addr) (fc : Nat) (c : Chunk) (own : Own 48 2 l.length (frV l) fb fc c) (hl : l.length ≤ 1000000) (hp : pk.fs = .slice fb l.length fc)
    (hs : pk.side = 0 ∨ pk.side = 1) (hn : n.ok) (ht : pk.eth.type ≠ 2048) :
    Spec Tryz.prog 22 [ptr e, ptr p] [EC W e n, PC p pk, c] (Rets fun v A => ∃ fb' fc' c', Own 48 2 (l.length + 1) (frV (l ++ [(1 - pk.side, pk.data)])) fb' fc' c' ∧ A = [EC W e { n with passed := n.passed + 1 }, PC p { pk with fs := .slice fb' (l.length + 1) fc' }, c'] ∧ v = .bool false) := by
  (refine spec_of Tryz.func22 (by decide +kernel) (Nat.le_of_ble_eq_true rfl) ?_; conv => whnf)
  (conv => whnf) <;> repeat' ((first | with_reducible refine bY ?_ | with_reducible refine bN ?_ | refine l1 0 rfl rfl ?_ | refine l1 1 rfl rfl ?_ | refine l1 2 rfl rfl ?_ | refine l1 3 rfl rfl ?_ | refine l1 4 rfl rfl ?_ | refine l1 5 rfl rfl ?_ | refine l1 6 rfl rfl ?_ | refine l1 7 rfl rfl ?_ | refine l1 8 rfl rfl ?_ | refine l1 9 rfl rfl ?_ | refine l1 10 rfl rfl ?_ | refine l1 11 rfl rfl ?_ | refine l1 12 rfl rfl ?_ | refine l1 13 rfl rfl ?_ | refine l2 0 rfl rfl ?_ | refine l2 1 rfl rfl ?_ | refine l2 2 rfl rfl ?_ | refine l2 3 rfl rfl ?_ | refine l2 4 rfl rfl ?_ | refine l2 5 rfl rfl ?_ | refine l2 6 rfl rfl ?_ | refine l2 7 rfl rfl ?_ | refine l2 8 rfl rfl ?_ | refine l2 9 rfl rfl ?_ | refine l2 10 rfl rfl ?_ | refine l2 11 rfl rfl ?_ | refine l2 12 rfl rfl ?_ | refine l2 13 rfl rfl ?_ | refine l3 0 rfl rfl rfl ?_ | refine l3 1 rfl rfl rfl ?_ | refine l3 2 rfl rfl rfl ?_ | refine l3 3 rfl rfl rfl ?_ | refine l3 4 rfl rfl rfl ?_ | refine l3 5 rfl rfl rfl ?_ | refine l3 6 rfl rfl rfl ?_ | refine l3 7 rfl rfl rfl ?_ | refine l3 8 rfl rfl rfl ?_ | refine l3 9 rfl rfl rfl ?_ | refine l3 10 rfl rfl rfl ?_ | refine l3 11 rfl rfl rfl ?_ | refine l3 12 rfl rfl rfl ?_ | refine l3 13 rfl rfl rfl ?_ | refine dY (by omega) ?_ | refine dN (by omega) ?_ | refine eY (by omega) ?_ | refine eN (by omega) ?_ | refine nY (by omega) ?_ | refine nN (by omega) ?_ | refine BV.not ?_ | refine tY (by assumption) ?_ | refine tN (by assumption) ?_ | refine dY (by assumption) ?_ | refine dN (by assumption) ?_ | refine sU (by omega) ?_ | refine aI (by omega) (by omega) ?_ | refine aW (by omega) (by omega) ?_ | refine aB (by omega) (by omega) ?_ | refine nV rfl ?_ | refine cV rfl ?_ | refine .nn (by omega) ?_ | refine appLI ?_ | refine bO ?_ ?_ | (show CallVC _ 47 _ _ _ _; refine CallVC.r (by (repeat (apply zC; · repeat (first | exact zH _ _ | exact zN _ | apply zT))); exact zE _) (pass_spec W e p n pk l fb fc c own hl _ hp hs hn) rfl ?_; rintro _ _ ⟨fb', fc', c', own', rfl, rfl⟩) | intro b) <;> (conv => whnf))
  exact ⟨_, _, (by (repeat (apply zC; · repeat (first | exact zH _ _ | exact zN _ | apply zT))); exact zE _), fb', fc', c', own', rfl, rfl⟩

/-! A frame of a part. -/
structure St1 where
  n : Cnt
  fr : Frags
  pk : Pkt
def St1.R (W : EngP) (e pb : Nat) (st : St1) (T : List Ent) : Prop := (one1 st.pk.fs = true ∧ one1 st.pk.ns = true) ∧ ∃ TF, FragR W.fr st.fr TF ∧ T.Perm (flat [EC W e st.n, PC pb st.pk, .many TF])

theorem stage_of {W : EngP} {e pb : Nat} {f : FuncId} {args : List Value} {T : List Ent} {H : HL} {st' : St1} {b : Bool} (hT : T.Perm (flat H))
    (h : Spec Tryz.prog f args H (Rets fun v A => ∃ TF', A = [EC W e st'.n, PC pb st'.pk, .many TF'] ∧ FragR W.fr st'.fr TF' ∧ v = .bool b)) (h1 : one1 st'.pk.fs = true ∧ one1 st'.pk.ns = true) :
    Spec Tryz.prog f args [.many T] (Rets fun v A => ∃ T', A = [.many T'] ∧ St1.R W e pb st' T' ∧ v = .bool b) := by
  refine Spec.pre (pre := H) ?_ (by simpa using hT)
  refine Spec.pack (q := fun v T' => St1.R W e pb st' T' ∧ v = .bool b) (spec_mono h ?_)
  intro o A hp
  cases o with
  | panic c => exact hp.elim
  | ret v =>
    obtain ⟨TF', rfl, hF, rfl⟩ := hp
    exact ⟨⟨h1, TF', hF, .refl _⟩, rfl⟩
theorem stage_keep {W : EngP} {e pb : Nat} {f : FuncId} {args : List Value} {n : Cnt} {pk : Pkt} {TF : List Ent} {st' : St1} {b : Bool} (hF : FragR W.fr st'.fr TF)
    (h : Spec Tryz.prog f args [EC W e n, PC pb pk] (Gives (.bool b) [EC W e st'.n, PC pb st'.pk])) : Spec Tryz.prog f args [EC W e n, PC pb pk, .many TF] (Rets fun v A => ∃ TF', A = [EC W e st'.n, PC pb st'.pk, .many TF'] ∧ FragR W.fr st'.fr TF' ∧ v = .bool b) := by
  refine spec_mono (Spec.frame [.many TF] h) ?_
  intro o A hp
  cases o with
  | panic c => exact hp.elim
  | ret v =>
    obtain ⟨B, rfl, rfl, rfl⟩ := hp
    exact ⟨TF, rfl, hF, rfl⟩

def ethLoad (pk : Pkt) : Pkt := { pk with eth := ethOf pk.data, load := sb pk.data 14 pk.data.size }
def ipLoad (pk : Pkt) : Pkt := { pk with ip := ipOf pk.load, load := sb pk.load (ipSize pk.load) (ipAll pk.load) }
def partStep : Nat → St1 → St1 × Bool
  | 0, st => ({ st with pk := ethLoad st.pk }, true)
  | 1, st => (st, true)
  | 2, st => ({ st with pk := ipLoad st.pk }, true)
  | _, st => (⟨(partS st.n st.fr st.pk).1, (addF st.fr st.pk.ip st.pk.load).1, (partS st.n st.fr st.pk).2.1⟩, (partS st.n st.fr st.pk).2.2)

theorem partS_ok {n : Cnt} (s : Frags) (pk : Pkt) : (partS n s pk).2.1.fs = pk.fs ∧ (partS n s pk).2.1.ns = pk.ns ∧ (partS n s pk).2.1.err = pk.err ∧ (partS n s pk).2.1.line = pk.line := by
  unfold partS
  split
  · exact ⟨rfl, rfl, rfl, rfl⟩
  · split <;> exact ⟨rfl, rfl, rfl, rfl⟩

theorem partS_done {n : Cnt} {s : Frags} {pk : Pkt} (h : (addF s pk.ip pk.load).2.2.1 = false) : (partS n s pk).2.2 = false := by
  unfold partS
  split
  · rfl
  · split
    · rfl
    · exact h

def partLoad (data : ByteArray) : ByteArray := sb data 14 data.size
def partIp (data : ByteArray) : IpH := ipOf (partLoad data)
def partBody (data : ByteArray) : ByteArray := sb (partLoad data) (ipSize (partLoad data)) (ipAll (partLoad data))
def partPk (side : Int) (data : ByteArray) : Pkt := ipLoad (ethLoad (.new0 side data))

theorem Frame_part (W : EngP) (e : Nat) (n : Cnt) (s : Frags) (TF : List Ent) (R : FragR W.fr s TF) (side : Int) (data : ByteArray) (hs : side = 0 ∨ side = 1) (h0 : 14 ≤ data.size) (h1 : data.size ≤ 3000) (ht : (ethOf data).type = 2048)
    (hip : ∀ j, j < 8 → ipBad (partLoad data) j = false) (hp : ¬ ((partIp data).more = false ∧ (partIp data).off = 0)) (hk : dkOk (ipKey (partIp data))) (ho : -100000 ≤ (partIp data).off ∧ (partIp data).off ≤ 100000) (hn : n.ok) (hnf : n.frames < 1000000000)
    (hdone : (addF s (partIp data) (partBody data)).2.2.1 = false) :
    Spec Tryz.prog 9 [ptr e, i64 side, .string data] [EC W e n, .many TF]
      (Rets fun v A => ∃ T', A = [EC W e (partS { n with frames := n.frames + 1 } s (partPk side data)).1, .many T'] ∧ FragR W.fr (addF s (partIp data) (partBody data)).1 T' ∧ v = zOut) := by
  have hn' : ({ n with frames := n.frames + 1 } : Cnt).ok := by simp only [Cnt.ok] at hn ⊢; omega
  have hz := sb_size data 14 data.size (by omega) (by omega) (by omega)
  have hsz : (partLoad data).size ≤ 1000000 := by unfold partLoad; omega
  have hbs : (partPk side data).load.size ≤ 100000 := by
    have e : (partPk side data).load = partBody data := rfl
    rw [e, partBody]
    have h0 := ipBad0 (hip 0 (by omega))
    have h3 := ipBad3 (hip 3 (by omega))
    have h4 := ipBad4 (hip 4 (by omega))
    have h6 := ipBad6 (hip 6 (by omega))
    have hb := ipSize_bd (partLoad data)
    have := sb_size (partLoad data) (ipSize (partLoad data)) (ipAll (partLoad data)) hb.1 h3 h4
    omega
  refine Spec.unpack ?_
  refine spec_mono (Frame_gen e (St1.R W e) partStep (fun i st => i ≤ 3 ∧ st = ⟨{ n with frames := n.frames + 1 }, s, (match i with | 0 => .new0 side data | 1 => ethLoad (.new0 side data) | 2 => ethLoad (.new0 side data) | _ => partPk side data)⟩)
    (fun st o0 o1 o2 o3 T => (o0 = st.pk.fs ∧ o1 = st.pk.ns ∧ o2 = i64 st.pk.err ∧ o3 = i64 st.pk.line) ∧ ∃ TF, FragR W.fr st.fr TF ∧ T.Perm (flat [EC W e st.n, .many TF])) side data TF ⟨{ n with frames := n.frames + 1 }, s, .new0 side data⟩ W.c W.rb W.rn W.rc W.st W.fr W.tb W.bl W.fl n ?_ ?_ ?_ ?_ ?_ ?_ ?_ ?_) ?_
  · rintro i st T pb ⟨hi, rfl⟩ ⟨hone, TF', hF, hT⟩
    rcases (show i = 0 ∨ i = 1 ∨ i = 2 ∨ i = 3 by omega) with rfl | rfl | rfl | rfl
    · exact stage_of hT (stage_keep hF (frame_ok W e pb _ _ hs h0 h1)) ⟨rfl, rfl⟩
    · exact stage_of hT (stage_keep hF (other_ip W e pb _ _ ht)) ⟨rfl, rfl⟩
    · exact stage_of hT (stage_keep hF (datagram_ok W e pb _ _ hip hsz)) ⟨rfl, rfl⟩
    · have hpo := partS_ok (n := { n with frames := n.frames + 1 }) s (partPk side data)
      exact stage_of hT (whole_part W e pb _ _ s TF' hF hp hk ho hbs hn') ⟨by simp only [partStep]; rw [hpo.1]; rfl, by simp only [partStep]; rw [hpo.2.1]; rfl⟩
  · exact ⟨by omega, rfl⟩
  · rintro i st ⟨hi, rfl⟩ hb
    rcases (show i = 0 ∨ i = 1 ∨ i = 2 ∨ i = 3 by omega) with rfl | rfl | rfl | rfl
    · exact ⟨by omega, rfl⟩
    · exact ⟨by omega, rfl⟩
    · exact ⟨by omega, rfl⟩
    · exfalso
      have := partS_done (n := { n with frames := n.frames + 1 }) (s := s) (pk := partPk side data) hdone
      simp only [partStep] at hb
      rw [this] at hb; cases hb
  · rintro st ⟨h, _⟩; omega
  · intro pb; exact ⟨⟨rfl, rfl⟩, TF, R, by simp; rfl⟩
  · rintro pb st T ⟨⟨o1, o2⟩, TF', hF, hT⟩
    refine ⟨(pktV st.pk).toArray, flat [EC W e st.n, .many TF'], _, _, _, _, hT.trans ?_, rfl, ⟨⟨rfl, rfl, rfl, rfl⟩, TF', hF, .refl _⟩, by simp only [List.all_cons, List.all_nil, o1, o2]; rfl⟩
    simpa using List.Perm.swap _ _ _
  · simp only [Cnt.ok] at hn; omega
  · omega
  · intro o A hp'
    cases o with
    | panic c => exact hp'.elim
    | ret v =>
      obtain ⟨T, o0, o1, o2, o3, rfl, ⟨⟨rfl, rfl, rfl, rfl⟩, TF', hF, hT⟩, rfl⟩ := hp'
      have hd := partS_done (n := { n with frames := n.frames + 1 }) (s := s) (pk := partPk side data) hdone
      have hpo := partS_ok (n := { n with frames := n.frames + 1 }) s (partPk side data)
      have hrun : runS partStep 10 (⟨{ n with frames := n.frames + 1 }, s, .new0 side data⟩ : St1) = ⟨(partS { n with frames := n.frames + 1 } s (partPk side data)).1, (addF s (partIp data) (partBody data)).1, (partS { n with frames := n.frames + 1 } s (partPk side data)).2.1⟩ := by
        have e3 : (partStep 3 (⟨{ n with frames := n.frames + 1 }, s, partPk side data⟩ : St1)).2 = false := hd
        show (if (partStep 3 (⟨{ n with frames := n.frames + 1 }, s, partPk side data⟩ : St1)).2 = true then _ else _) = _
        rw [if_neg (by rw [e3]; simp)]
        rfl
      rw [hrun] at hF hT ⊢
      refine ⟨T, rfl, _, hT, TF', rfl, hF, ?_⟩
      simp only
      rw [hpo.1, hpo.2.1, hpo.2.2.1, hpo.2.2.2]; rfl

/-! A frame of another kind: it goes by. -/
structure St2 where
  n : Cnt
  pk : Pkt
  l : List (Int × ByteArray)
abbrev frOwn (l : List (Int × ByteArray)) (fb : Option Addr) (fc : Nat) (c : Chunk) : Prop := Own 48 2 l.length (frV l) fb fc c
def St2.R (W : EngP) (e pb : Nat) (st : St2) (T : List Ent) : Prop := one1 st.pk.ns = true ∧ ∃ fb fc c, frOwn st.l fb fc c ∧ T.Perm (flat [EC W e st.n, PC pb { st.pk with fs := .slice fb st.l.length fc }, c])
def otherStep : Nat → St2 → St2 × Bool
  | 0, st => ({ st with pk := ethLoad st.pk }, true)
  | _, st => ({ st with n := { st.n with passed := st.n.passed + 1 }, l := st.l ++ [(1 - st.pk.side, st.pk.data)] }, false)

theorem Frame_other (W : EngP) (e : Nat) (n : Cnt) (side : Int) (data : ByteArray) (hs : side = 0 ∨ side = 1) (h0 : 14 ≤ data.size) (h1 : data.size ≤ 3000) (ht : (ethOf data).type ≠ 2048) (hn : n.ok) (hnf : n.frames < 1000000000) :
    Spec Tryz.prog 9 [ptr e, i64 side, .string data] [EC W e n]
      (Rets fun v A => ∃ fb fc c, frOwn [(1 - side, data)] fb fc c ∧ A = [EC W e { n with frames := n.frames + 1, passed := n.passed + 1 }, c] ∧ v = .agg #[.slice fb 1 fc, .slice none 0 0, i64 0, i64 0]) := by
  have hn' : ({ n with frames := n.frames + 1 } : Cnt).ok := by simp only [Cnt.ok] at hn ⊢; omega
  refine Spec.unpack (Spec.pre (pre := [EC W e n, .many []]) ?_ (by simp))
  refine spec_mono (Frame_gen e (St2.R W e) otherStep (fun i st => i ≤ 1 ∧ st = ⟨{ n with frames := n.frames + 1 }, (match i with | 0 => .new0 side data | _ => ethLoad (.new0 side data)), []⟩)
    (fun st o0 o1 o2 o3 T => (o1 = st.pk.ns ∧ o2 = i64 st.pk.err ∧ o3 = i64 st.pk.line) ∧ ∃ fb fc c, frOwn st.l fb fc c ∧ o0 = .slice fb st.l.length fc ∧ T.Perm (flat [EC W e st.n, c])) side data [] ⟨{ n with frames := n.frames + 1 }, .new0 side data, []⟩ W.c W.rb W.rn W.rc W.st W.fr W.tb W.bl W.fl n ?_ ?_ ?_ ?_ ?_ ?_ ?_ ?_) ?_
  · rintro i st T pb ⟨hi, rfl⟩ ⟨hone, fb, fc, c, own, hT⟩
    rcases (show i = 0 ∨ i = 1 by omega) with rfl | rfl
    · refine Spec.pre (pre := [EC W e { n with frames := n.frames + 1 }, PC pb { Pkt.new0 side data with fs := .slice fb 0 fc }, c]) ?_ (by simpa using hT)
      refine Spec.pack (q := fun v T' => St2.R W e pb ⟨{ n with frames := n.frames + 1 }, ethLoad (.new0 side data), []⟩ T' ∧ v = .bool true) (spec_mono (Spec.frame [c] (frame_ok W e pb { n with frames := n.frames + 1 } { Pkt.new0 side data with fs := .slice fb 0 fc } hs h0 h1)) ?_)
      intro o A hp
      cases o with
      | panic c => exact hp.elim
      | ret v =>
        obtain ⟨B, rfl, rfl, rfl⟩ := hp
        exact ⟨⟨rfl, fb, fc, c, own, .of_eq rfl⟩, rfl⟩
    · refine Spec.pre (pre := [EC W e { n with frames := n.frames + 1 }, PC pb { ethLoad (Pkt.new0 side data) with fs := .slice fb 0 fc }, c]) ?_ (by simpa using hT)
      refine Spec.pack (q := fun v T' => St2.R W e pb ⟨{ n with frames := n.frames + 1, passed := n.passed + 1 }, ethLoad (.new0 side data), [(1 - side, data)]⟩ T' ∧ v = .bool false)
        (spec_mono (other_pass W e pb { n with frames := n.frames + 1 } { ethLoad (Pkt.new0 side data) with fs := .slice fb 0 fc } [] fb fc c own (by decide) rfl hs hn' ht) ?_)
      intro o A hp
      cases o with
      | panic c => exact hp.elim
      | ret v =>
        obtain ⟨fb', fc', c', own', rfl, rfl⟩ := hp
        exact ⟨⟨rfl, fb', fc', c', own', .of_eq rfl⟩, rfl⟩
  · exact ⟨by omega, rfl⟩
  · rintro i st ⟨hi, rfl⟩ hb
    rcases (show i = 0 ∨ i = 1 by omega) with rfl | rfl
    · exact ⟨by omega, rfl⟩
    · cases hb
  · rintro st ⟨h, _⟩; omega
  · intro pb; exact ⟨rfl, none, 0, .many [], .nil, .of_eq (by simp; rfl)⟩
  · rintro pb st T ⟨o1, fb, fc, c, own, hT⟩
    refine ⟨(pktV { st.pk with fs := .slice fb st.l.length fc }).toArray, flat [EC W e st.n, c], _, _, _, _, hT.trans ?_, rfl, ⟨⟨rfl, rfl, rfl⟩, fb, fc, c, own, rfl, .refl _⟩, by simp only [List.all_cons, List.all_nil, o1]; rfl⟩
    simpa using List.Perm.swap _ _ _
  · simp only [Cnt.ok] at hn; omega
  · omega
  · intro o A hp'
    cases o with
    | panic c => exact hp'.elim
    | ret v =>
      obtain ⟨T, o0, o1, o2, o3, rfl, ⟨⟨rfl, rfl, rfl⟩, fb, fc, c, own, rfl, hT⟩, rfl⟩ := hp'
      exact ⟨T, rfl, _, hT, fb, fc, c, own, rfl, rfl⟩
end Go.Sv
