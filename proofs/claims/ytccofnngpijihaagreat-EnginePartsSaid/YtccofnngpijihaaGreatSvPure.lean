/- The law's parts, in plain. -/
import Derived.Test.YtccofnngpijihaaGreatSvPart
import Derived.Test.YtccofnngpijihaaGreatSvFrag4
import Derived.Test.YtccofnngpijihaaGreatProg
set_option linter.all false
namespace Go.Sv
open Go.Proofs
set_option maxRecDepth 100000
set_option maxHeartbeats 20000000
set_option linter.unusedVariables false

def dk (i : Int) : DKey := ⟨167772161, 167772162, 17, i⟩
def e1 : DEnt := lastF ent0 { ip0 17 with more := true } b8
theorem e1_w : wholeF e1 = none := by decide +kernel
theorem e1_a : e1.age = 0 := by decide +kernel
theorem last_eq (h : IpH) (hm : h.more = true) (ho : h.off = 0) : lastF ent0 h b8 = e1 := by
  unfold e1 lastF fullF
  rw [ho, hm]
  rfl

/-- A part of a new datagram. -/
theorem add_new (s : Frags) (h : IpH) (i : Int) (hm : h.more = true) (ho : h.off = 0) (hk : ipKey h = dk i) (hn : ∀ p ∈ s.l, p.1 ≠ dk i) :
    addF s h b8 = if s.most ≤ s.l.length then (s, ⟨#[]⟩, false, 10) else ({ s with l := s.l ++ [(dk i, e1)] }, ⟨#[]⟩, false, 0) := by
  have hg : get s.l (dk i) = none := get_none.2 hn
  have hb : b8.size = 8 := by decide +kernel
  rw [addF, if_neg (by rw [hm]; simp), if_neg (by rw [hm, hb, ho]; decide), if_neg (by rw [hb, ho]; decide), hk, hg]
  simp only
  split
  · rfl
  · rw [finF, last_eq h hm ho, e1_w]
    simp only [hk]
    rw [put_new hg, put_split hg]

/-- After some parts. -/
structure PartI (most ticks : Int) (k : Nat) (s : Frags) : Prop where
  m : s.most = most
  t : s.ticks = ticks
  len : (s.l.length : Int) = min (k : Int) most
  old : ∀ p ∈ s.l, ∃ j : Nat, j < k ∧ p = (dk j, e1)

theorem PartI.zero {most ticks : Int} (h : 0 ≤ most) : PartI most ticks 0 ⟨most, ticks, []⟩ := ⟨rfl, rfl, by simp only [List.length_nil]; omega, fun p hp => (nomatch hp)⟩
theorem PartI.next {most ticks : Int} {k : Nat} {s : Frags} (I : PartI most ticks k s) {h : IpH} (hm : h.more = true) (ho : h.off = 0) (hk : ipKey h = dk k) :
    PartI most ticks (k + 1) (addF s h b8).1 ∧ (addF s h b8).2.2.1 = false ∧ (addF s h b8).2.2.2 = (if most ≤ k then 10 else 0) := by
  have hn : ∀ p ∈ s.l, p.1 ≠ dk k := by
    intro p hp e
    obtain ⟨j, hj, rfl⟩ := I.old p hp
    simp only [dk, DKey.mk.injEq] at e
    omega
  have hl := I.len
  rw [add_new s h k hm ho hk hn, I.m]
  by_cases hf : most ≤ k
  · rw [if_pos (by omega), if_pos hf]
    exact ⟨⟨I.m, I.t, by simp only; omega, fun p hp => by obtain ⟨j, hj, e⟩ := I.old p hp; exact ⟨j, by omega, e⟩⟩, rfl, rfl⟩
  · rw [if_neg (by omega), if_neg hf]
    refine ⟨⟨rfl, I.t, by simp only [List.length_append, List.length_cons, List.length_nil]; omega, fun p hp => ?_⟩, rfl, rfl⟩
    simp only [List.mem_append, List.mem_singleton] at hp
    obtain hp | rfl := hp
    · obtain ⟨j, hj, e⟩ := I.old p hp; exact ⟨j, by omega, e⟩
    · exact ⟨k, by omega, rfl⟩

theorem PartI.tick {most ticks : Int} {k : Nat} {s : Frags} (I : PartI most ticks k s) : tickF s ticks = { s with l := [] } := by
  have : s.l.filterMap (fun p => (tick1 ticks s.ticks p.2).map fun x => (p.1, x)) = [] := by
    rw [List.filterMap_eq_nil_iff]
    intro p hp
    obtain ⟨j, hj, rfl⟩ := I.old p hp
    simp only [tick1, I.t, e1_a]
    rw [if_pos (by omega)]
    rfl
  rw [tickF, this]
end Go.Sv
