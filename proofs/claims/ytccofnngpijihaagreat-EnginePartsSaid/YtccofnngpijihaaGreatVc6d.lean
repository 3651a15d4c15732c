/- One order stands for all: the machine's steps. -/
import Derived.Test.YtccofnngpijihaaGreatVc6c
set_option linter.all false
namespace Go.Sv

section
variable {P : Program} {ops : Array Oper} {bs : List Nat} {l : List It} (G : Good P ops bs l) {n : Nat} {w0 : World} {ρ0 : Env} {F : List Ent} {K : Env → HL → Prop} {E : List PanicEntry → HL → Prop}
include G

omit G in
theorem nodup_split {X1 X2 : List (Nat × Ent)} {i : Nat} {e : Ent} (h : ((X1 ++ (i, e) :: X2).map (·.1)).Nodup) : ((X1 ++ X2).map (·.1)).Nodup ∧ ∀ x ∈ X1 ++ X2, x.1 ≠ i := by
  simp only [List.map_append, List.map_cons, List.nodup_append, List.nodup_cons] at h ⊢
  obtain ⟨h1, ⟨h2, h3⟩, h4⟩ := h
  refine ⟨⟨h1, h3, fun a ha b hb => h4 a ha b (by simp [hb])⟩, fun x hx => ?_⟩
  rcases List.mem_append.1 hx with hx | hx
  · exact h4 x.1 (List.mem_map_of_mem hx) i (by simp)
  · intro e; subst e; exact h2 (List.mem_map_of_mem hx)

omit G in
/-- Of a pending step nothing turns where a step is added whose values were there. -/
theorem cn_keep {listed : Array Bool} {w : World} {pre suf : List It} {y : It} {val : Nat → Value} {ρ ρ' : Env} {H H' : HL} {hist : List (Nat × Hs)} {X X' : List (Nat × Ent)}
    (c : Cn P ops n w0 l ρ0 F K E listed w pre (y :: suf) val ρ H hist X) (hph : y.ph = .com) (hl : L listed y.id) (hvc : dVC P n suf hist K E ρ' H') (hrel : Rel n ρ0 ρ' (pre ++ [y]) val)
    (hok : Ok (X'.map (·.2) ++ F) H' w0 w) (hps : ∀ x ρx v, PS P ops n w0 x ρx H v → PS P ops n w0 x ρx H' v) (hX : ∀ e ∈ X', e ∈ X ∧ e.1 ≠ y.id) (hX2 : ∀ e ∈ X, e.1 ≠ y.id → e ∈ X') (hnd : (X'.map (·.1)).Nodup) :
    Cn P ops n w0 l ρ0 F K E listed w (pre ++ [y]) suf val ρ' H' hist X' := by
  have hsp : l = (pre ++ [y]) ++ suf := by rw [c.split]; simp
  refine ⟨hsp, hvc, hrel, hok, fun x hx => c.notyet x (by simp [hx]), ?_, ?_, ?_, ?_, ?_, ?_, hnd, fun i h hi => ?_⟩
  · intro x hx he
    rcases List.mem_append.1 hx with hx | hx
    · exact c.eff x hx he
    · simp at hx; subst hx; exact hl
  · intro x hx he
    rcases List.mem_append.1 hx with hx | hx
    · exact c.com x hx he
    · simp at hx; subst hx; exact hl
  · intro x hx hg hxl
    rcases List.mem_append.1 hx with hx | hx
    · obtain ⟨prex, sufx, ρx, e1, e2, e3, e4⟩ := (c.pgo x hx hg hxl).ex
      exact ⟨prex, sufx, ρx, e1, e2, hps _ _ _ e3, e4⟩
    · simp at hx; subst hx; rw [hph] at hg; cases hg
  · intro x hx hg hxl
    rcases List.mem_append.1 hx with hx | hx
    · exact c.pprep x hx hg hxl
    · simp at hx; subst hx; rw [hph] at hg; cases hg
  · intro x hx hg hxl hnc
    rcases List.mem_append.1 hx with hx | hx
    · have hne : x.id ≠ y.id := fun e => hnc y (by simp) ⟨e.symm, hph⟩
      rcases c.early x hx hg hxl (fun z hz => hnc z (by simp [hz])) with ⟨m, ob, b, h1, h2, h3⟩ | h
      · exact .inl ⟨m, ob, b, h1, hX2 _ h2 hne, h3⟩
      · exact .inr h
    · simp at hx; subst hx; rw [hph] at hg; cases hg
  · intro e he
    obtain ⟨h1, h2⟩ := hX e he
    obtain ⟨g1, ⟨x, hx, e1⟩, g3, g4⟩ := c.xs e h1
    refine ⟨g1, ⟨x, by simp [hx], e1⟩, fun z hz => ?_, g4⟩
    rcases List.mem_append.1 hz with hz | hz
    · exact g3 z hz
    · simp at hz; subst hz; exact fun e => h2 e.1.symm
  · obtain ⟨x, hx, e⟩ := c.hk i h hi
    exact ⟨x, by simp [hx], e⟩

/-- The one order goes a step ahead: a making that the machine has made. -/
theorem Good.step_com {listed : Array Bool} {w : World} {pre suf : List It} {y : It} {val : Nat → Value} {ρ : Env} {H : HL} {hist : List (Nat × Hs)} {X : List (Nat × Ent)}
    (c : Cn P ops n w0 l ρ0 F K E listed w pre (y :: suf) val ρ H hist X) (hph : y.ph = .com) (hl : L listed y.id) :
    ∃ ρ' H' X', Cn P ops n w0 l ρ0 F K E listed w (pre ++ [y]) suf val ρ' H' hist X' := by
  obtain ⟨hno, hok, hpr, _⟩ := G.item c.split
  obtain ⟨x, hx, hx1, hx2⟩ := hpr hph
  have hnc : ∀ z ∈ pre, ¬ (z.id = x.id ∧ z.ph = .com) := fun z hz ⟨e1, e2⟩ => hno z hz ⟨e1.trans hx1, e2.trans hph.symm⟩
  have hvc := c.vc
  simp only [dVC, hph] at hvc
  rcases c.early x hx hx2 (by rw [hx1]; exact hl) hnc with ⟨m, ob, b, h1, h2, h3⟩ | ⟨h1, h2⟩
  · rw [hx1] at h1 h2 h3
    rw [h1] at hvc
    simp only at hvc
    have hv := hvc b
    rw [mkK_eq] at hv
    obtain ⟨ρ', k, hp⟩ := putK.env hv
    obtain ⟨X1, X2, rfl⟩ := List.append_of_mem h2
    obtain ⟨hnd, hne⟩ := nodup_split c.xnd
    refine ⟨ρ', _, X1 ++ X2, cn_keep c hph hl k (rel_put c.rel (fun _ _ _ => rfl) (by rw [hph]; simp) h3 hp) (c.ok.perm ?_) (fun x ρx v h => ps_more b ob h) (fun e he => ⟨?_, hne e he⟩) (fun e he hn => ?_) hnd⟩
    · simp only [List.map_append, List.map_cons, flat_one, List.cons_append, List.append_assoc]
      refine (List.Perm.trans ?_ (List.perm_middle (a := (b, ob)) (l₁ := flat H ++ X1.map (·.2)) (l₂ := X2.map (·.2) ++ F))).trans ?_
      · simp
      · simp
    · rcases List.mem_append.1 he with he | he <;> simp [he]
    · rcases List.mem_append.1 he with he | he
      · simp [he]
      · rcases List.mem_cons.1 he with rfl | he
        · exact absurd rfl hn
        · simp [he]
  · rw [hx1] at h1 h2
    have hvc' : putK n y.o.d undef ρ fun ρ' => dVC P n suf hist K E ρ' H := by
      split at hvc
      · rename_i m o hh; exact absurd hh (h1 m o)
      · exact hvc
    obtain ⟨ρ', k, hp⟩ := putK.env hvc'
    refine ⟨ρ', H, X.filter (fun e => e.1 ≠ y.id), ?_⟩
    have hall : ∀ e ∈ X, e.1 ≠ y.id := fun e he heq => by
      obtain ⟨_, _, _, m, hm⟩ := c.xs e he
      rw [heq] at hm
      exact h1 _ _ hm
    have hf : X.filter (fun e => e.1 ≠ y.id) = X := List.filter_eq_self.2 fun e he => by simpa using hall e he
    rw [hf]
    exact cn_keep c hph hl k (rel_put c.rel (fun _ _ _ => rfl) (by rw [hph]; simp) h2 hp) c.ok (fun _ _ _ h => h) (fun e he => ⟨he, hall e he⟩) (fun e he _ => he) c.xnd


/-- May the one order pass this step, whatever the machine did? -/
def free (listed : Array Bool) (y : It) : Prop := plike y = true ∨ (y.ph = .com ∧ L listed y.id)

/-- The one order goes on, up to a step. -/
theorem Good.advance {listed : Array Bool} {w : World} {a : Act} : ∀ (mid : List It) {pre suf : List It} {val : Nat → Value} {ρ : Env} {H : HL} {hist : List (Nat × Hs)} {X : List (Nat × Ent)},
    Cn P ops n w0 l ρ0 F K E listed w pre (mid ++ suf) val ρ H hist X → Slots ops n ρ0 a listed val → (∀ y ∈ mid, free listed y) →
    ∃ val' ρ' H' hist' X', Cn P ops n w0 l ρ0 F K E listed w (pre ++ mid) suf val' ρ' H' hist' X' ∧ Slots ops n ρ0 a listed val' := by
  intro mid
  induction mid with
  | nil => intro pre suf val ρ H hist X c hs _; exact ⟨val, ρ, H, hist, X, by simpa using c, hs⟩
  | cons y mid ih =>
    intro pre suf val ρ H hist X c hs hf
    rcases hf y (by simp) with hl | ⟨hph, hl⟩
    · obtain ⟨val', ρ', hist', c', hs'⟩ := G.step_like (by simpa using c) hs hl
      obtain ⟨v2, r2, H2, h2, X2, c2, hs2⟩ := ih c' hs' (fun z hz => hf z (by simp [hz]))
      exact ⟨v2, r2, H2, h2, X2, by simpa using c2, hs2⟩
    · obtain ⟨ρ', H', X', c'⟩ := G.step_com (by simpa using c) hph hl
      obtain ⟨v2, r2, H2, h2, X2, c2, hs2⟩ := ih c' hs (fun z hz => hf z (by simp [hz]))
      exact ⟨v2, r2, H2, h2, X2, by simpa using c2, hs2⟩

/-- Up to a step of an operation that may be next, the one order may go. -/
theorem Good.may {listed : Array Bool} {w : World} (hd : Down ops listed) {pre mid suf : List It} {z : It} {val : Nat → Value} {ρ : Env} {H : HL} {hist : List (Nat × Hs)} {X : List (Nat × Ent)}
    (c : Cn P ops n w0 l ρ0 F K E listed w pre (mid ++ z :: suf) val ρ H hist X) (hz : z.ph ≠ .com) (hrdy : ∀ o, ops[z.id]? = some o → ∀ e ∈ o.after, Region.binds .any e = true → L listed e.on) :
    ∀ y ∈ mid, free listed y := by
  intro y hy
  have hsp : l = (pre ++ mid) ++ z :: suf := by rw [c.split]; simp
  have hyl : y ∈ l := by rw [hsp]; simp [hy]
  have hne := G.fresh hsp hz y (by simp [hy])
  rcases (G.item hsp).2.2.2.2.1 y (by simp [hy]) with h | h | h | h
  · exact absurd h hne
  · exact .inl h
  · exact absurd h hz
  · have hL := G.behind hd _ rfl hsp hrdy (G.lt y hyl) h
    by_cases hc : y.ph = .com
    · exact .inr ⟨hc, hL⟩
    · exact absurd hL (c.notyet y (by simp [hy]) hc)

omit G in
theorem set_L {listed : Array Bool} {i j : Nat} (hi : i < listed.size) : L (listed.setIfInBounds i true) j ↔ L listed j ∨ j = i := by
  unfold L
  by_cases h : i = j
  · subst h; simp [hi]
  · rw [getD_set_ne false h]
    constructor
    · exact .inl
    · rintro (h' | h')
      · exact h'
      · exact absurd h'.symm h

end
end Go.Sv
