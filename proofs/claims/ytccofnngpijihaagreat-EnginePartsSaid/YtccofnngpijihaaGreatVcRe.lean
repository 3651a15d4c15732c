/- Pieces laid out anew. -/
import Derived.Test.YtccofnngpijihaaGreatVcGo
set_option linter.all false
namespace Go.Sv
theorem RawVC.re {P : Program} {s : Sem Next} {H : HL} {K : Value → HL → Prop} {E : List PanicEntry → HL → Prop} (h : RawVC P s H (fun v H' => ∃ H2, (flat H').Perm (flat H2) ∧ K v H2) E) : RawVC P s H K E := by
  obtain ⟨h⟩ := h
  refine ⟨fun F w0 w hk => ?_⟩
  rcases h F w0 w hk with ⟨v, H', w', hr, ⟨H2, hp, k⟩, hok⟩ | ⟨v, H', w', hr, k, hok⟩
  · exact .inl ⟨v, H2, w', hr, k, hok.perm (hp.append_right F)⟩
  · exact .inr ⟨v, H', w', hr, k, hok⟩

theorem CallVC.re {P : Program} {f : FuncId} {args : List Value} {H : HL} {K : Value → HL → Prop} {E : List PanicEntry → HL → Prop} (h : CallVC P f args H (fun v H' => ∃ H2, (flat H').Perm (flat H2) ∧ K v H2) E) : CallVC P f args H K E := by
  obtain ⟨hc, h⟩ := h
  refine ⟨hc, fun F w0 w hok => (h F w0 w hok).mono fun e w' he => ?_⟩
  rcases he with ⟨v, H', rfl, ⟨H2, hp, k⟩, hok'⟩ | ⟨c, H', rfl, k, hok'⟩
  · exact .inl ⟨v, H2, rfl, k, hok'.perm (hp.append_right F)⟩
  · exact .inr ⟨c, H', rfl, k, hok'⟩

theorem spec_mono {P : Program} {f : FuncId} {args : List Value} {pre : HL} {p q : Out → HL → Prop} (h : Spec P f args pre p) (hi : ∀ o A, p o A → q o A) : Spec P f args pre q := by
  intro F w0 w hok
  refine (h F w0 w hok).mono fun e w' he => ?_
  obtain ⟨o, A, h1, h2, h3⟩ := he
  exact ⟨o, A, h1, hi o A h2, h3⟩
/-- First in another order, then cut up or joined anew. -/
theorem Take.via {A H R H1 H2 : HL} (t1 : Take H1 H []) (hf : flat H1 = flat H2) (t2 : Take A H2 R) : Take A H R := .re (by have := t1.perm; simpa [hf] using this) t2
theorem perm_via {H H1 H2 : HL} (t1 : Take H1 H []) (hf : flat H1 = flat H2) : (flat H).Perm (flat H2) := by have := t1.perm; simpa [hf] using this
theorem Take.self (A R : HL) : Take A (A ++ R) R := by
  induction A with
  | nil => exact .nil _
  | cons c A ih => exact .cons (.here _ _) ih
theorem Take.viaR {A H R H1 : HL} (t1 : Take H1 H []) (hf : flat H1 = flat A ++ flat R) : Take A H R := .via t1 (hf.trans (flat_append A R).symm) (Take.self A R)
theorem Take.viaA {A H H1 : HL} (t1 : Take H1 H []) (hf : flat H1 = flat A) : Take A H [] := .viaR t1 (by simpa using hf)
theorem Spec.unpack {P : Program} {f : FuncId} {args : List Value} {pre : HL} {q : Value → HL → Prop} (h : Spec P f args pre (Rets fun v A => ∃ T, A = [.many T] ∧ ∃ B, T.Perm (flat B) ∧ q v B)) : Spec P f args pre (Rets q) := by
  intro F w0 w hok
  refine (h F w0 w hok).mono fun e w' he => ?_
  obtain ⟨o, A, he, hp, hok'⟩ := he
  cases o with
  | panic c => exact hp.elim
  | ret v =>
    obtain ⟨T, rfl, B, hB, hq⟩ := hp
    exact ⟨.ret v, B, he, hq, hok'.perm (by simpa using hB.append_right F)⟩
/-- A contract over pieces in another order, joined otherwise. -/
theorem Spec.pre {P : Program} {f : FuncId} {args : List Value} {pre pre' : HL} {post : Out → HL → Prop} (h : Spec P f args pre post) (hf : (flat pre').Perm (flat pre)) : Spec P f args pre' post := by
  intro F w0 w hok
  exact h F w0 w (hok.perm (hf.append_right F))
theorem Spec.frame {P : Program} {f : FuncId} {args : List Value} {pre : HL} {q : Value → HL → Prop} (X : HL) (h : Spec P f args pre (Rets q)) : Spec P f args (pre ++ X) (Rets fun v A => ∃ B, A = B ++ X ∧ q v B) := by
  intro F w0 w hok
  have hok1 : Ok (flat X ++ F) pre w0 w := hok.perm (by simp)
  refine (h _ w0 w hok1).mono fun e w' he => ?_
  obtain ⟨o, A, he, hp, hok'⟩ := he
  cases o with
  | panic c => exact hp.elim
  | ret v => exact ⟨.ret v, A ++ X, he, ⟨A, rfl, hp⟩, hok'.perm (by simp)⟩
end Go.Sv
