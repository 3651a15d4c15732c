/- One order stands for all: the machine's steps, and the end. -/
import Derived.Test.YtccofnngpijihaaGreatVc6e
set_option linter.all false
namespace Go.Sv

section
variable {P : Program} {ops : Array Oper} {bs : List Nat} {l : List It} (G : Good P ops bs l) {n : Nat} {w0 : World} {ρ0 : Env} {F : List Ent} {K : Env → HL → Prop} {E : List PanicEntry → HL → Prop}
include G

/-- Two steps of one operation: the last one makes, the other one prepares. -/
theorem Good.two {x z : It} (hx : x ∈ l) (hz : z ∈ l) (h : x.id = z.id) (hne : x.ph ≠ z.ph) : (x.ph = .prep ∧ z.ph = .com) ∨ (x.ph = .com ∧ z.ph = .prep) := by
  have ho := G.sameO hx hz h
  have p1 := G.phok hx
  have p2 := G.phok hz
  unfold phOk at p1 p2
  rw [ho] at p1
  cases hxp : x.ph <;> cases hzp : z.ph <;> rw [hxp] at p1 hne <;> rw [hzp] at p2 hne <;> first
    | exact absurd rfl hne
    | exact .inl ⟨rfl, rfl⟩
    | exact .inr ⟨rfl, rfl⟩
    | (cases hi : z.o.i <;> rw [hi] at p1 p2 <;> simp at p1 p2)

theorem Good.uniq {pre : List It} {suf : List It} (h : l = pre ++ suf) {x z : It} (hx : x ∈ suf) (hz : z ∈ pre) (hid : x.id = z.id) : z.ph = .prep ∧ x.ph = .com := by
  obtain ⟨s1, s2, rfl⟩ := List.append_of_mem hx
  have hsp : l = (pre ++ s1) ++ x :: s2 := by rw [h]; simp
  have hne := (G.item hsp).1 z (by simp [hz])
  have hxl : x ∈ l := by rw [h]; simp
  have hzl : z ∈ l := by rw [h]; simp [hz]
  rcases G.two hzl hxl hid.symm (fun e => hne ⟨hid.symm, e⟩) with ⟨h1, h2⟩ | ⟨h1, h2⟩
  · exact ⟨h1, h2⟩
  · -- the making stands ahead of its preparation: it has one ahead of it
    exfalso
    exact G.fresh hsp (by rw [h2]; simp) z (by simp [hz]) hid.symm

/-- A step that was made ahead is made now. -/
theorem Good.exec_like {listed : Array Bool} (hsz : listed.size = ops.size) {w : World} {pre suf : List It} {val : Nat → Value} {ρ : Env} {H : HL} {hist : List (Nat × Hs)} {X : List (Nat × Ent)}
    (c : Cn P ops n w0 l ρ0 F K E listed w pre suf val ρ H hist X) {z : It} (hz : z ∈ pre) (hg : z.ph = .go) (hn : ¬ L listed z.id) :
    Cn P ops n w0 l ρ0 F K E (listed.setIfInBounds z.id true) w pre suf val ρ H hist X := by
  have hzl : z ∈ l := by rw [c.split]; simp [hz]
  have hi : z.id < listed.size := by rw [hsz]; exact G.lt z hzl
  have up : ∀ {j}, L listed j → L (listed.setIfInBounds z.id true) j := fun h => (set_L hi).2 (.inl h)
  have dn : ∀ {j}, ¬ L (listed.setIfInBounds z.id true) j → ¬ L listed j := fun h h' => h (up h')
  refine ⟨c.split, c.vc, c.rel, c.ok, fun x hx hph hL => ?_, fun x hx he => up (c.eff x hx he), fun x hx he => up (c.com x hx he), fun x hx h1 h2 => c.pgo x hx h1 (dn h2), fun x hx h1 h2 => c.pprep x hx h1 (dn h2),
    fun x hx h1 h2 h3 => ?_, fun e he => ?_, c.xnd, c.hk⟩
  · rcases (set_L hi).1 hL with hL | hid
    · exact c.notyet x hx hph hL
    · have := (G.uniq c.split hx hz hid).2
      exact hph this
  · rcases (set_L hi).1 h2 with h2 | hid
    · exact c.early x hx h1 h2 h3
    · exfalso
      have hxl : x ∈ l := by rw [c.split]; simp [hx]
      rcases G.two hxl hzl hid (by rw [h1, hg]; simp) with ⟨_, h⟩ | ⟨h, _⟩
      · rw [hg] at h; cases h
      · rw [h1] at h; cases h
  · obtain ⟨h1, h2⟩ := c.xs e he
    exact ⟨up h1, h2⟩

/-- An effect is made. -/
theorem Good.exec_eff {listed : Array Bool} (hsz : listed.size = ops.size) (hd : Down ops listed) {w w' : World} {pre suf : List It} {val : Nat → Value} {ρ ρ' : Env} {H H' : HL} {hist : List (Nat × Hs)} {X : List (Nat × Ent)} {z : It}
    (c : Cn P ops n w0 l ρ0 F K E listed w pre (z :: suf) val ρ H hist X) (hef : isEf z = true) (hg : z.ph = .go) (hn : ¬ L listed z.id) (hrdy : ∀ o, ops[z.id]? = some o → ∀ e ∈ o.after, Region.binds .any e = true → L listed e.on)
    {v : Value} (hvc : dVC P n suf hist K E ρ' H') (hrel : Rel n ρ0 ρ' (pre ++ [z]) (fun j => if j = z.id then v else val j)) (hok : Ok (X.map (·.2) ++ F) H' w0 w')
    (hst : H' = H ∨ ∀ i ∈ z.chk, ∀ f, lookH hist i = some (.st f) → f H') :
    Cn P ops n w0 l ρ0 F K E (listed.setIfInBounds z.id true) w' (pre ++ [z]) suf (fun j => if j = z.id then v else val j) ρ' H' hist X := by
  have hzl : z ∈ l := by rw [c.split]; simp
  have hi : z.id < listed.size := by rw [hsz]; exact G.lt z hzl
  have up : ∀ {j}, L listed j → L (listed.setIfInBounds z.id true) j := fun h => (set_L hi).2 (.inl h)
  have dn : ∀ {j}, ¬ L (listed.setIfInBounds z.id true) j → ¬ L listed j := fun h h' => h (up h')
  have hfr := G.fresh c.split (by rw [hg]; simp)
  have hsp : l = (pre ++ [z]) ++ suf := by rw [c.split]; simp
  have hvals : ∀ x ∈ pre, (if x.id = z.id then v else val x.id) = val x.id := fun x hx => if_neg (hfr x hx)
  refine ⟨hsp, hvc, hrel, hok, fun x hx hph hL => ?_, fun x hx he => ?_, fun x hx he => ?_, fun x hx h1 h2 => ?_, fun x hx h1 h2 => ?_, fun x hx h1 h2 h3 => ?_, fun e he => ?_, c.xnd, fun i h hi => ?_⟩
  · rcases (set_L hi).1 hL with hL | hid
    · exact c.notyet x (by simp [hx]) hph hL
    · exact hph (G.uniq hsp hx (z := z) (by simp) hid).2
  · rcases List.mem_append.1 hx with hx | hx
    · exact up (c.eff x hx he)
    · simp at hx; subst hx; exact (set_L hi).2 (.inr rfl)
  · rcases List.mem_append.1 hx with hx | hx
    · exact up (c.com x hx he)
    · simp at hx; subst hx; rw [hg] at he; cases he
  · rcases List.mem_append.1 hx with hx | hx
    · obtain ⟨prex, sufx, ρx, e1, e2, e3, e4⟩ := (c.pgo x hx h1 (dn h2)).ex
      have hsub := G.prefix_sub e1 c.split hx
      refine ⟨prex, sufx, ρx, e1, rel_val e2 (fun y hy _ => hvals y (hsub y hy)), ?_, ?_⟩
      · rw [hvals x hx]
        rcases hst with rfl | hst
        · exact e3
        · rcases e4 with e4 | ⟨hr, f, hf, e4⟩
          · exact e4 H'
          · rcases (G.item c.split).2.2.2.2.2 hef x hx hr with hb | hb
            · exact absurd (G.behind hd _ rfl c.split hrdy (G.lt x (by rw [c.split]; simp [hx])) hb) (dn h2)
            · exact e4 H' (hst x.id hb f hf)
      · rw [hvals x hx]; exact e4
    · simp at hx; subst hx; exact absurd ((set_L hi).2 (.inr rfl)) h2
  · rcases List.mem_append.1 hx with hx | hx
    · obtain ⟨prex, sufx, ρx, e1, e2, e3⟩ := (c.pprep x hx h1 (dn h2)).ex
      have hsub := G.prefix_sub e1 c.split hx
      exact ⟨prex, sufx, ρx, e1, rel_val e2 (fun y hy _ => hvals y (hsub y hy)), e3⟩
    · simp at hx; subst hx; rw [hg] at h1; cases h1
  · rcases List.mem_append.1 hx with hx | hx
    · rcases (set_L hi).1 h2 with h2 | hid
      · have := c.early x hx h1 h2 (fun y hy => h3 y (by simp [hy]))
        simp only [hvals x hx]; exact this
      · exact absurd hid (hfr x hx)
    · simp at hx; subst hx; rw [hg] at h1; cases h1
  · obtain ⟨h1, ⟨x, hx, e1⟩, h3, h4⟩ := c.xs e he
    refine ⟨up h1, ⟨x, by simp [hx], e1⟩, fun y hy => ?_, h4⟩
    rcases List.mem_append.1 hy with hy | hy
    · exact h3 y hy
    · simp at hy; subst hy; rw [hg]; simp
  · obtain ⟨x, hx, e⟩ := c.hk i h hi
    exact ⟨x, by simp [hx], e⟩

/-- A making is made, ahead of its turn. -/
theorem Good.exec_make {listed : Array Bool} (hsz : listed.size = ops.size) {w w' : World} {pre suf : List It} {val : Nat → Value} {ρ : Env} {H : HL} {hist : List (Nat × Hs)} {X X' : List (Nat × Ent)}
    (c : Cn P ops n w0 l ρ0 F K E listed w pre suf val ρ H hist X) {x : It} (hx : x ∈ pre) (hp : x.ph = .prep) (hn : ¬ L listed x.id) {v : Value} (hok : Ok (X'.map (·.2) ++ F) H w0 w')
    (hcase : (∃ m ob b, lookH hist x.id = some (.ob m ob) ∧ v = m.val b ∧ X' = (x.id, (b, ob)) :: X) ∨ ((∀ m ob, lookH hist x.id ≠ some (.ob m ob)) ∧ v = undef ∧ X' = X)) :
    Cn P ops n w0 l ρ0 F K E (listed.setIfInBounds x.id true) w' pre suf (fun j => if j = x.id then v else val j) ρ H hist X' := by
  have hxl : x ∈ l := by rw [c.split]; simp [hx]
  have hi : x.id < listed.size := by rw [hsz]; exact G.lt x hxl
  have up : ∀ {j}, L listed j → L (listed.setIfInBounds x.id true) j := fun h => (set_L hi).2 (.inl h)
  have dn : ∀ {j}, ¬ L (listed.setIfInBounds x.id true) j → ¬ L listed j := fun h h' => h (up h')
  -- no step of it in 'pre' but the preparation
  have honly : ∀ y ∈ pre, y.ph ≠ .prep → y.id ≠ x.id := fun y hy hyp he => by
    have hyl : y ∈ l := by rw [c.split]; simp [hy]
    rcases G.two hyl hxl he (by rw [hp]; exact hyp) with ⟨h, _⟩ | ⟨h, _⟩
    · exact hyp h
    · exact hn (by rw [← he]; exact c.com y hy h)
  have hvals : ∀ y ∈ pre, y.ph ≠ .prep → (fun j => if j = x.id then v else val j) y.id = val y.id := fun y hy hyp => if_neg (honly y hy hyp)
  refine ⟨c.split, c.vc, rel_val c.rel hvals, hok, fun y hy hph hL => ?_, fun y hy he => up (c.eff y hy he), fun y hy he => up (c.com y hy he), fun y hy h1 h2 => ?_, fun y hy h1 h2 => ?_, fun y hy h1 h2 h3 => ?_, fun e he => ?_, ?_, c.hk⟩
  · rcases (set_L hi).1 hL with hL | hid
    · exact c.notyet y hy hph hL
    · exact hph (G.uniq c.split hy hx hid).2
  · obtain ⟨prex, sufx, ρx, e1, e2, e3, e4⟩ := (c.pgo y hy h1 (dn h2)).ex
    have hsub := G.prefix_sub e1 c.split hy
    have hvy : (if y.id = x.id then v else val y.id) = val y.id := hvals y hy (by rw [h1]; simp)
    exact ⟨prex, sufx, ρx, e1, rel_val e2 (fun t ht htp => hvals t (hsub t ht) htp), by rw [hvy]; exact e3, by rw [hvy]; exact e4⟩
  · obtain ⟨prex, sufx, ρx, e1, e2, e3⟩ := (c.pprep y hy h1 (dn h2)).ex
    have hsub := G.prefix_sub e1 c.split hy
    exact ⟨prex, sufx, ρx, e1, rel_val e2 (fun t ht htp => hvals t (hsub t ht) htp), e3⟩
  · by_cases hid : y.id = x.id
    · simp only [hid, if_true]
      rcases hcase with ⟨m, ob, b, g1, g2, rfl⟩ | ⟨g1, g2, rfl⟩
      · exact .inl ⟨m, ob, b, g1, by simp, g2⟩
      · exact .inr ⟨g1, g2⟩
    · simp only [if_neg hid]
      rcases (set_L hi).1 h2 with h2 | h2
      · rcases c.early y hy h1 h2 h3 with ⟨m, ob, b, g1, g2, g3⟩ | g
        · refine .inl ⟨m, ob, b, g1, ?_, g3⟩
          rcases hcase with ⟨m', ob', b', k1, k2, rfl⟩ | ⟨_, _, rfl⟩
          · simp [g2]
          · exact g2
        · exact .inr g
      · exact absurd h2 hid
  · have old : ∀ e ∈ X, L (listed.setIfInBounds x.id true) e.1 ∧ (∃ y ∈ pre, y.id = e.1 ∧ y.ph = .prep) ∧ (∀ z ∈ pre, ¬ (z.id = e.1 ∧ z.ph = .com)) ∧ ∃ m, lookH hist e.1 = some (.ob m e.2.2) := fun e he => by
      obtain ⟨h1, h2⟩ := c.xs e he; exact ⟨up h1, h2⟩
    rcases hcase with ⟨m, ob, b, g1, g2, rfl⟩ | ⟨g1, g2, rfl⟩
    · rcases List.mem_cons.1 he with rfl | he
      · exact ⟨(set_L hi).2 (.inr rfl), ⟨x, hx, rfl, hp⟩, fun z hz ⟨e1, e2⟩ => honly z hz (by rw [e2]; simp) e1, m, g1⟩
      · exact old e he
    · exact old e he
  · rcases hcase with ⟨m, ob, b, g1, g2, rfl⟩ | ⟨g1, g2, rfl⟩
    · simp only [List.map_cons, List.nodup_cons]
      refine ⟨fun hm => ?_, c.xnd⟩
      obtain ⟨e, he, heq⟩ := List.mem_map.1 hm
      have := (c.xs e he).1
      rw [heq] at this
      exact hn this
    · exact c.xnd


theorem Good.down {listed : Array Bool} (hsz : listed.size = ops.size) (hd : Down ops listed) {i : Nat} {o : Oper} (ho : ops[i]? = some o) (hrdy : ∀ e ∈ o.after, Region.binds .any e = true → L listed e.on) :
    Down ops (listed.setIfInBounds i true) := by
  have hi : i < listed.size := by rw [hsz]; exact (Array.getElem?_eq_some_iff.1 ho).1
  intro j oj hj hoj e he hb
  rcases (set_L hi).1 hj with hj | rfl
  · exact (set_L hi).2 (.inl (hd j oj hj hoj e he hb))
  · rw [ho] at hoj; cases hoj
    exact (set_L hi).2 (.inl (hrdy e he hb))

variable {Q : Exit → Env → HL → Prop}

theorem Good.any : ∀ (fuel : Nat) (listed : Array Bool) (a : Act) (w : World) (pre suf : List It) (val : Nat → Value) (ρ : Env) (H : HL) (hist : List (Nat × Hs)) (X : List (Nat × Ent)),
    listed.size = ops.size → Down ops listed → Slots ops n ρ0 a listed val → Cn P ops n w0 l ρ0 F (fun ρ H => Q .normal ρ H) (fun c H => Q (.panic c) [] H) listed w pre suf val ρ H hist X →
    left ops listed ≤ fuel → wpAny P .any ops (Iq F w0 n Q) fuel listed a w := by
  intro fuel
  induction fuel with
  | zero =>
    intro listed a w pre suf val ρ H hist X hsz hd hs c hf
    have hr : Region.ready .any ops listed = [] := by
      rw [List.eq_nil_iff_forall_not_mem]
      intro i hi
      rw [mem_ready] at hi
      obtain ⟨h0, o, ho, _⟩ := hi
      have hi' : i < ops.size := (Array.getElem?_eq_some_iff.1 ho).1
      have hlt := left_lt hsz hi' (by
        have : listed.getD i false = false := by simpa [show i < listed.size by omega] using h0
        simp [L, this])
      omega
    exact ⟨hr, G.finish hsz hr c hs⟩
  | succ fuel ih =>
    intro listed a w pre suf val ρ H hist X hsz hd hs c hf
    refine ⟨fun hr => G.finish hsz hr c hs, fun i hi => ?_⟩
    obtain ⟨h0, o, ho, hrdy⟩ := mem_ready.1 hi
    have hi' : i < ops.size := (Array.getElem?_eq_some_iff.1 ho).1
    have hn : ¬ L listed i := by
      have : listed.getD i false = false := by simpa [show i < listed.size by omega] using h0
      simp [L, this]
    have hrdy' : ∀ o', ops[i]? = some o' → ∀ e ∈ o'.after, Region.binds .any e = true → L listed e.on := fun o' ho' => by rw [ho] at ho'; cases ho'; exact hrdy
    have hsz' : (listed.setIfInBounds i true).size = ops.size := by simpa using hsz
    have hd' := G.down hsz hd ho hrdy
    have hlt := left_lt hsz hi' hn
    have hsel : ∀ cs b, o.op ≠ .select cs b := fun cs b => Region.noSelect_spec G.nosel i o cs b ho
    -- what goes on behind it
    have next : ∀ {a' w' pre suf val ρ H hist X}, Slots ops n ρ0 a' (listed.setIfInBounds i true) val →
        Cn P ops n w0 l ρ0 F (fun ρ H => Q .normal ρ H) (fun c H => Q (.panic c) [] H) (listed.setIfInBounds i true) w' pre suf val ρ H hist X → wpAny P .any ops (Iq F w0 n Q) fuel (listed.setIfInBounds i true) a' w' :=
      fun hs c => ih _ _ _ _ _ _ _ _ _ _ hsz' hd' hs c (by omega)
    -- a step that was made ahead
    have pend : ∀ {pre suf val ρ H hist X} {z : It}, Cn P ops n w0 l ρ0 F (fun ρ H => Q .normal ρ H) (fun c H => Q (.panic c) [] H) listed w pre suf val ρ H hist X → Slots ops n ρ0 a listed val →
        z ∈ pre → z.id = i → z.ph = .go → wpOp P ops (Iq F w0 n Q) i (wpAny P .any ops (Iq F w0 n Q) fuel (listed.setIfInBounds i true)) a w := by
      intro pre suf val ρ H hist X z c hs hz hid hg
      subst hid
      obtain ⟨prex, sufx, ρx, e1, e2, e3, _⟩ := (c.pgo z hz hg hn).ex
      have hh := G.agree hd hs e1 (by rw [hg]; simp) e2 ho hn hrdy
      have hsg := e3 o ho a hs.size hh _ w c.ok
      refine hsg.wpOp ho ?_
      have hval : (fun j => if j = z.id then val z.id else val j) = val := by
        funext j; by_cases hj : j = z.id
        · simp [hj]
        · simp [hj]
      have hs' := G.slots_put hs hsz ho hn (val z.id)
      rw [hval] at hs'
      exact next hs' (G.exec_like hsz c hz hg hn)
    -- a making
    have make : ∀ {pre suf val ρ H hist X} {x : It}, Cn P ops n w0 l ρ0 F (fun ρ H => Q .normal ρ H) (fun c H => Q (.panic c) [] H) listed w pre suf val ρ H hist X → Slots ops n ρ0 a listed val →
        x ∈ pre → x.id = i → x.ph = .prep → wpOp P ops (Iq F w0 n Q) i (wpAny P .any ops (Iq F w0 n Q) fuel (listed.setIfInBounds i true)) a w := by
      intro pre suf val ρ H hist X x c hs hx hid hp
      subst hid
      obtain ⟨prex, sufx, ρx, e1, e2, e3⟩ := (c.pprep x hx hp hn).ex
      have hh := G.agree hd hs e1 (by rw [hp]; simp) e2 ho hn hrdy
      unfold wpOp
      simp only [ho]
      rcases e3 o ho a hs.size hh with ⟨m, ob, h1, h2, h3⟩ | ⟨h1, h2⟩
      · rw [if_pos h2]
        left
        unfold Oper.wp
        rw [h3 w]
        exact next (G.slots_put hs hsz ho hn _) (G.exec_make hsz c hx hp hn (X' := (x.id, (w.heap.size, ob)) :: X) (v := m.val w.heap.size) (by simpa using c.ok.frame_alloc ob) (.inl ⟨m, ob, _, h1, rfl, rfl⟩))
      · rw [if_neg (by rw [h2]; simp)]
        exact next (G.slots_put hs hsz ho hn _) (G.exec_make hsz c hx hp hn (X' := X) (v := undef) c.ok (.inr ⟨h1, rfl, rfl⟩))
    obtain ⟨z, hzl, hzid, hzp⟩ := G.all i hi'
    have hsplit := c.split
    cases hph : z.ph with
    | prep => exact absurd hph hzp
    | go =>
      by_cases hzpre : z ∈ pre
      · exact pend c hs hzpre hzid hph
      · have hzsuf : z ∈ suf := by
          rw [hsplit] at hzl
          exact (List.mem_append.1 hzl).resolve_left hzpre
        obtain ⟨mid, suf', rfl⟩ := List.append_of_mem hzsuf
        have hrz : ∀ o', ops[z.id]? = some o' → ∀ e ∈ o'.after, Region.binds .any e = true → L listed e.on := by rw [hzid]; exact hrdy'
        obtain ⟨val2, ρ2, H2, hist2, X2, c2, hs2⟩ := G.advance mid c hs (G.may hd c (by rw [hph]; simp) hrz)
        by_cases hlike : plike z = true
        · obtain ⟨val3, ρ3, hist3, c3, hs3⟩ := G.step_like c2 hs2 hlike
          exact pend c3 hs3 (by simp) hzid hph
        · -- an effect
          have hok := G.phok hzl
          have hef : isEf z = true := by
            unfold phOk at hok
            unfold plike at hlike
            unfold isEf
            rw [hph] at hok hlike
            cases hii : z.o.i <;> rw [hii] at hok hlike <;> simp at hok hlike ⊢
          subst hzid
          obtain ⟨o', ho', hco⟩ := G.inn z hzl
          rw [ho] at ho'; cases ho'
          obtain ⟨hdd, hci⟩ := compIn_dst hco
          have hh := G.agree hd hs2 c2.split (by rw [hph]; simp) c2.rel ho hn hrdy
          have hvc := c2.vc
          have hfr := G.fresh c2.split (by rw [hph]; simp)
          obtain ⟨e, hie⟩ : ∃ e, z.o.i = .e e := by
            unfold isEf at hef
            cases hii : z.o.i <;> rw [hii] at hef <;> simp at hef
            exact ⟨_, rfl⟩
          simp only [dVC, hph, hie] at hvc
          rw [hie] at hci
          have hce : compE P o = some e := by
            unfold compI at hci
            split at hci <;> try (cases hci; done)
            split at hci <;> try (cases hci; done)
            split at hci <;> try (cases hci; done)
            split at hci
            · cases hci; assumption
            · cases hci
          have hput : ∀ {v : Value} {ρ1 ρ3 : Env}, (∀ u, look ρ1 u = look ρ2 u) → ((z.o.d = none ∧ ρ3 = ρ1) ∨ ∃ k, z.o.d = some k ∧ k < n ∧ ρ3 = (k, v) :: ρ1) →
              Rel n ρ0 ρ3 ((pre ++ mid) ++ [z]) (fun i => if i = z.id then v else val2 i) := fun {v} {ρ1} {ρ3} h1 h2 =>
            rel_put (rel_look c2.rel h1) (fun x hx _ => by simp [hfr x hx]) (by rw [hph]; simp) (by simp) h2
          obtain ⟨ρ1, h1, h2⟩ := gVC.out hvc
          unfold wpOp
          simp only [ho]
          rcases h2 with ⟨hw, hrun⟩ | ⟨hw, hpass⟩
          · rw [if_pos (wants_run hco hh hw)]
            obtain ⟨a'', ha'', he⟩ := hold_over (ρ := ρ1) hs2.size (fun u v hu => (c2.rel u v (by rw [← h1 u]; exact hu)).1) (holdsOn_look h1 hh) hsel
            refine ee_sound hce he.symm ha'' c2.ok hrun _ _ (fun v H' w' k hok' => ?_) (fun cc H' w' k hok' => ⟨hs2.defers, H', k, hok'.drop⟩)
            obtain ⟨k', hst⟩ := stabs_out k
            obtain ⟨ρ3, k3, h3⟩ := putK.env k'
            exact next (G.slots_put hs2 hsz ho hn v) (G.exec_eff hsz hd c2 hef hph hn hrz k3 (hput h1 h3) hok' (.inr hst))
          · rw [if_neg (by rw [wants_run hco hh hw]; simp)]
            obtain ⟨ρ3, k3, h3⟩ := putK.env hpass
            exact next (G.slots_put hs2 hsz ho hn undef) (G.exec_eff hsz hd c2 hef hph hn hrz k3 (hput h1 h3) c2.ok (.inl rfl))
    | com =>
      subst hzid
      obtain ⟨p1, p2, hzs⟩ := List.append_of_mem hzl
      obtain ⟨x, hx1, hx2, hx3⟩ := (G.item hzs).2.2.1 hph
      have hxl : x ∈ l := by rw [hzs]; simp [hx1]
      by_cases hxpre : x ∈ pre
      · exact make c hs hxpre hx2 hx3
      · have hxsuf : x ∈ suf := by
          rw [hsplit] at hxl
          exact (List.mem_append.1 hxl).resolve_left hxpre
        obtain ⟨mid, suf', rfl⟩ := List.append_of_mem hxsuf
        have hrx : ∀ o', ops[x.id]? = some o' → ∀ e ∈ o'.after, Region.binds .any e = true → L listed e.on := by rw [hx2]; exact hrdy'
        obtain ⟨val2, ρ2, H2, hist2, X2, c2, hs2⟩ := G.advance mid c hs (G.may hd c (by rw [hx3]; simp) hrx)
        obtain ⟨val3, ρ3, hist3, c3, hs3⟩ := G.step_like c2 hs2 (by unfold plike; rw [hx3])
        exact make c3 hs3 (by simp) hx2 hx3

end

theorem dreg_sound {P : Program} (hm : P.follows .mixedOrders = true) {n : Nat} (id : Nat) (ops : Array Oper) (l : List It) (F : List Ent) (w0 : World) (Q : Exit → Env → HL → Prop) (ρ : Env) (H : HL) (a : Act) (w : World)
    (hl : schedD P ops = some l) (hk : dOk P ops = true) (hH : Holds ρ a) (hs : a.tmps.size = n) (hd : a.defers = []) (hok : Ok F H w0 w) (h : dregVC P n l Q ρ H) :
    (Code.region id ops true).wp P (Iq F w0 n Q) a w := by
  obtain ⟨bs, G⟩ := good_of hl hk
  have hnot : ∀ i, ¬ L (Array.replicate ops.size false) i := fun i h => by
    unfold L at h
    by_cases hi : i < ops.size <;> simp [hi] at h
  refine wp_region_any hm (G.any (ρ0 := ρ) ops.size _ a _ [] l (fun _ => undef) ρ H [] [] (by simp) (fun i o h => absurd h (hnot i)) ⟨hs, hd, fun i o d _ h => absurd h (hnot i), fun u v hu _ => hH u v hu⟩ ?_ ?_)
  · refine ⟨rfl, h, fun u v hu => ⟨?_, .inr ⟨by simp, hu⟩⟩, by simpa using hok.drew, fun x _ _ => hnot _, by simp, by simp, by simp, by simp, by simp, by simp, by simp, fun i h hi => by simp [lookH] at hi⟩
    have := hH u v hu
    rw [← hs]
    exact (Array.getElem?_eq_some_iff.1 this).1
  · unfold left
    exact Nat.le_trans List.countP_le_length (by simp)

end Go.Sv
