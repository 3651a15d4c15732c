/- The operations that only compute: sound over the model's own. -/
import Derived.Test.YtccofnngpijihaaGreatVc1
import Derived.Laws.Strings
import Derived.Laws.Slices
set_option linter.all false
namespace Go.Sv

theorem szOf_run {P : Program} {t : TypeId} {n : Nat} (h : szOf P t = some n) (w : World) : (sizeOf t).run P w = .ok n w := by
  unfold szOf at h
  cases hi : P.info? t with
  | none => simp [hi] at h
  | some i => simp [hi] at h; simp [sizeOf, typeInfo, hi, h]

theorem aggOf_run {P : Program} {t : TypeId} {b : Bool} (h : aggOf P t = some b) (w : World) : (isAgg t).run P w = .ok b w := by
  unfold aggOf at h
  cases hu : P.underlying t with
  | none => simp [hu] at h
  | some d => cases d <;> simp [hu] at h <;> subst h <;> simp [isAgg, run_underlying hu]

theorem isIntT_out {P : Program} {t : TypeId} (h : isIntT P t = true) : ∃ k, P.underlying t = some (.int k) := by
  unfold isIntT at h; split at h
  · exact ⟨_, ‹_›⟩
  · cases h
theorem isStrT_out {P : Program} {t : TypeId} (h : isStrT P t = true) : P.underlying t = some .string := by
  unfold isStrT at h; split at h
  · assumption
  · cases h

section
variable {P : Program} {ρ : Env} {K : Value → Prop} {dst : Option Tmp} {ty : TypeId} {pos : String} {after : Array Edge} {g : Option (Nat × Bool)}

/-- What an operation gives, whatever the world. -/
def Fine (P : Program) (ρ : Env) (o : Oper) (K : Value → Prop) : Prop := ∃ v, K v ∧ ∀ a, Holds ρ a → ∀ w, (execOp a.eval o).run P w = .ok (.value v) w

theorem fine_mv {x : Operand} (h : peVC ρ (.mv x) K) : Fine P ρ ⟨dst, .move x, ty, pos, after, g⟩ K := by
  obtain ⟨v, hv, k⟩ := evK.out h
  exact ⟨v, k, fun a hH w => by simp [execOp, hH.eval hv]⟩

theorem fine_as {x : Operand} (h : peVC ρ (.mv x) K) : Fine P ρ ⟨dst, .assign x, ty, pos, after, g⟩ K := by
  obtain ⟨v, hv, k⟩ := evK.out h
  exact ⟨v, k, fun a hH w => by simp [execOp, hH.eval hv]⟩

theorem fine_pick {c x y : Operand} (h : peVC ρ (.pick c x y) K) : Fine P ρ ⟨dst, .pick c x y, ty, pos, after, g⟩ K := by
  obtain ⟨v, hv, k⟩ := evK.out h
  obtain ⟨t, rfl, k⟩ := onBool.out k
  cases t with
  | true =>
    obtain ⟨u, hu, k⟩ := evK.out (k.ht rfl)
    exact ⟨u, k, fun a hH w => by simp [execOp, hH.eval hv, hH.eval hu, asBool]⟩
  | false =>
    obtain ⟨u, hu, k⟩ := evK.out (k.hf rfl)
    exact ⟨u, k, fun a hH w => by simp [execOp, hH.eval hv, hH.eval hu, asBool]⟩

theorem fine_int {op : BinOp} {k : IntKind} {x y : Int} {t : TypeId} {ox oy : Operand} (hn : op ≠ .shl ∧ op ≠ .shr) (h : intVC op k x y K) :
    ∃ v, K v ∧ ∀ w, (do eqGuard op t ox oy (.int k x) (.int k y); binOp op t (.int k x) (.int k y) : Sem Value).run P w = .ok v w := by
  cases op <;> simp only [intVC] at h
  case add => exact ⟨_, h.out, fun w => by simp [go_sem]⟩
  case sub => exact ⟨_, h.out, fun w => by simp [go_sem]⟩
  case mul => exact ⟨_, h.out, fun w => by simp [go_sem]⟩
  case quo => obtain ⟨hb, h⟩ := h; exact ⟨_, h.out.out, fun w => by simp [go_sem, hb]⟩
  case rem => obtain ⟨hb, h⟩ := h; exact ⟨_, h.out, fun w => by simp [go_sem, hb]⟩
  case and => exact ⟨_, h.out, fun w => by simp [go_sem, Op.intBits, bitsI]⟩
  case or => exact ⟨_, h.out, fun w => by simp [go_sem, Op.intBits, bitsI]⟩
  case xor => exact ⟨_, h.out, fun w => by simp [go_sem, Op.intBits, bitsI]⟩
  case andNot => exact ⟨_, h.out, fun w => by simp [go_sem, Op.intBits, bitsI]⟩
  case eql => exact ⟨_, h, fun w => by simp [go_sem]⟩
  case neq => exact ⟨_, h, fun w => by simp [go_sem]⟩
  case lss => exact ⟨_, h, fun w => by simp [go_sem]⟩
  case leq => exact ⟨_, h, fun w => by simp [go_sem]⟩
  case gtr => exact ⟨_, h, fun w => by simp [go_sem]⟩
  case geq => exact ⟨_, h, fun w => by simp [go_sem]⟩
  case shl => exact absurd rfl hn.1
  case shr => exact absurd rfl hn.2


theorem bytes_ext {x y : ByteArray} (h : x.data.toList = y.data.toList) : x = y := by
  cases x; cases y
  simp only at h
  rw [Array.toList_inj.1 h]

theorem toList_eq_iff (x y : ByteArray) : (x.toList == y.toList) = decide (x = y) := by
  rw [Bool.eq_iff_iff]
  simp only [beq_iff_eq, decide_eq_true_eq, ByteArray.toList_eq]
  exact ⟨bytes_ext, fun h => by rw [h]⟩

theorem fine_str {op : BinOp} {x y : ByteArray} {t : TypeId} {ox oy : Operand} (h : strVC op x y K) :
    ∃ v, K v ∧ ∀ w, (do eqGuard op t ox oy (.string x) (.string y); binOp op t (.string x) (.string y) : Sem Value).run P w = .ok v w := by
  cases op <;> simp only [strVC] at h
  case add =>
    obtain ⟨hs, h⟩ := h
    refine ⟨_, h, fun w => ?_⟩
    have : ¬ (9223372036854775807 : Int) < (x.size : Int) + y.size := by omega
    simp [go_sem, binOp, Op.stringOp, this]
  case eql => exact ⟨_, h, fun w => by simp [go_sem, toList_eq_iff]⟩
  case neq => exact ⟨_, h, fun w => by simp [go_sem, toList_eq_iff]⟩

theorem fine_bin {op : BinOp} {t t2 : TypeId} {x y : Operand} (h : peVC ρ (.bin op x y) K) : Fine P ρ ⟨dst, .binOp op t x y t2, ty, pos, after, g⟩ K := by
  obtain ⟨u, hu, h⟩ := evK.out h
  obtain ⟨v, hv, h⟩ := evK.out h
  unfold binVC at h
  split at h
  · rename_i k n k' m
    split at h
    · simp only [intVC] at h
      obtain ⟨hb, h⟩ := h
      exact ⟨_, h.out.out, fun a hH w => by simp only [execOp, hH.eval hu, hH.eval hv]; simp [go_sem, Op.shift, Int.not_lt.2 hb, shlI, IntKind.bits]⟩
    · simp only [intVC] at h
      obtain ⟨hb, h⟩ := h
      exact ⟨_, h.out, fun a hH w => by simp only [execOp, hH.eval hu, hH.eval hv]; simp [go_sem, Op.shift, Int.not_lt.2 hb, shrI, IntKind.bits]⟩
    · rename_i h1 h2
      split at h
      · rename_i hk
        have hk' := sameK_eq hk
        subst hk'
        obtain ⟨v, kv, hr⟩ := fine_int (P := P) (t := t) (ox := x) (oy := y) ⟨h1, h2⟩ h
        exact ⟨v, kv, fun a hH w => by
          have := hr w
          simp only [execOp, hH.eval hu, hH.eval hv]
          simp only [Sem.run_bind] at this ⊢
          rw [this]; rfl⟩
      · exact h.elim
  · rename_i p q
    obtain ⟨v, kv, hr⟩ := fine_str (P := P) (t := t) (ox := x) (oy := y) h
    exact ⟨v, kv, fun a hH w => by
      have := hr w
      simp only [execOp, hH.eval hu, hH.eval hv]
      simp only [Sem.run_bind] at this ⊢
      rw [this]; rfl⟩
  · exact h.elim


theorem fine_no {t : TypeId} {x : Operand} (h : peVC ρ (.no x) K) : Fine P ρ ⟨dst, .unOp .not t x, ty, pos, after, g⟩ K := by
  obtain ⟨u, hu, h⟩ := evK.out h
  obtain ⟨b, rfl, h'⟩ := onBool.out h
  replace h := h'
  exact ⟨_, h, fun a hH w => by simp only [execOp, hH.eval hu]; simp [go_sem, Op.unary]⟩

theorem fine_neg {t : TypeId} {x : Operand} (h : peVC ρ (.neg x) K) : Fine P ρ ⟨dst, .unOp .neg t x, ty, pos, after, g⟩ K := by
  obtain ⟨u, hu, h⟩ := evK.out h
  obtain ⟨k, n, rfl, h'⟩ := onInt.out h
  replace h := h'
  exact ⟨_, h.out, fun a hH w => by simp only [execOp, hH.eval hu]; simp [Op.unary, Op.intArith]⟩

theorem fine_cpl {t : TypeId} {x : Operand} (h : peVC ρ (.cpl x) K) : Fine P ρ ⟨dst, .unOp .xor t x, ty, pos, after, g⟩ K := by
  obtain ⟨u, hu, h⟩ := evK.out h
  obtain ⟨k, n, rfl, h'⟩ := onInt.out h
  replace h := h'.out
  exact ⟨_, h, fun a hH w => by simp only [execOp, hH.eval hu]; simp [Op.unary, Op.intBits, bitsI]⟩

theorem fine_conv {s d : TypeId} {k : IntKind} {x : Operand} (hs : isIntT P s = true) (hd : P.underlying d = some (.int k)) (h : peVC ρ (.conv k x) K) :
    Fine P ρ ⟨dst, .convert s d x, ty, pos, after, g⟩ K := by
  obtain ⟨u, hu, h⟩ := evK.out h
  obtain ⟨k', n, rfl, h'⟩ := onInt.out h
  replace h := h'
  obtain ⟨k2, hs⟩ := isIntT_out hs
  exact ⟨_, h.out, fun a hH w => by simp only [execOp, hH.eval hu]; simp [convert, run_underlying hs, run_underlying hd, Conv.intToInt]⟩

theorem fine_convs {s d : TypeId} {x : Operand} (hs : isStrT P s = true) (hd : isStrT P d = true) (h : peVC ρ (.cvs x) K) :
    Fine P ρ ⟨dst, .convert s d x, ty, pos, after, g⟩ K := by
  obtain ⟨u, hu, h⟩ := evK.out h
  obtain ⟨b, rfl, h'⟩ := onStr.out h
  exact ⟨_, h', fun a hH w => by simp only [execOp, hH.eval hu]; simp [convert, run_underlying (isStrT_out hs), run_underlying (isStrT_out hd)]⟩

theorem fine_fld {s : TypeId} {f : Nat} {x : Operand} {fs : Array Field} {fd : Field} {n : Nat} (hs : P.underlying s = some (.struct fs)) (hf : fs[f]? = some fd)
    (hz : szOf P fd.type = some (n + 1)) (h : peVC ρ (.fld x fd.offset) K) : Fine P ρ ⟨dst, .fieldAddr s x f, ty, pos, after, g⟩ K := by
  obtain ⟨u, hu, h⟩ := evK.out h
  obtain ⟨b, o, rfl, h'⟩ := onPtr.out h
  replace h := h'
  exact ⟨_, h, fun a hH w => by
    simp only [execOp, hH.eval hu]
    simp [Instr.fieldAt, run_underlying hs, hf, Instr.sureAddr, fieldPlace, szOf_run hz, Addr.add_lit]⟩

theorem fine_ixa {t e : TypeId} {x i : Operand} {len sz : Nat} (ht : P.underlying t = some (.array len e)) (hz : szOf P e = some sz) (h : peVC ρ (.ixa x i len sz) K) :
    Fine P ρ ⟨dst, .indexAddr t x i, ty, pos, after, g⟩ K := by
  obtain ⟨u, hu, h⟩ := evK.out h
  obtain ⟨b, o, rfl, h'⟩ := onPtr.out h
  replace h := h'
  obtain ⟨v, hv, h⟩ := evK.out h
  obtain ⟨k, n, rfl, hb, h'⟩ := onInt.out h
  replace h := h'
  exact ⟨_, h, fun a hH w => by
    simp only [execOp, hH.eval hu, hH.eval hv]
    simp [Instr.indexAt, asIntOf, run_underlying ht, Instr.sureAddr, hb, szOf_run hz, Addr.add_lit]⟩

theorem fine_ixs {t e : TypeId} {x i : Operand} {sz : Nat} (ht : P.underlying t = some (.slice e)) (hz : szOf P e = some sz) (h : peVC ρ (.ixs x i sz) K) :
    Fine P ρ ⟨dst, .indexAddr t x i, ty, pos, after, g⟩ K := by
  obtain ⟨u, hu, h⟩ := evK.out h
  obtain ⟨b, o, len, c, rfl, h'⟩ := onSl.out h
  replace h := h'
  obtain ⟨v, hv, h⟩ := evK.out h
  obtain ⟨k, n, rfl, hb, h'⟩ := onInt.out h
  replace h := h'
  exact ⟨_, h, fun a hH w => by
    simp only [execOp, hH.eval hu, hH.eval hv]
    simp [Instr.indexAt, asIntOf, run_underlying ht, hb, szOf_run hz, Addr.add_lit]⟩

theorem bt_eq (s : ByteArray) {n : Int} (h : 0 ≤ n ∧ n < s.size) : ∃ b, s[n.toNat]? = some b ∧ (b.toNat : Int) = bt s n := by
  have hl : n.toNat < s.size := by omega
  refine ⟨s[n.toNat], by simp [hl], ?_⟩
  have hd : n.toNat < s.data.toList.length := by simpa using hl
  simp only [bt, List.getD_eq_getElem?_getD, List.getElem?_eq_getElem hd, Option.getD_some]
  rfl

theorem fine_byt {t : TypeId} {x i : Operand} (ht : P.underlying t = some .string) (h : peVC ρ (.byt x i) K) :
    Fine P ρ ⟨dst, .index t x i, ty, pos, after, g⟩ K := by
  obtain ⟨u, hu, h⟩ := evK.out h
  obtain ⟨s, rfl, h'⟩ := onStr.out h
  replace h := h'
  obtain ⟨v, hv, h⟩ := evK.out h
  obtain ⟨k, n, rfl, hb, h'⟩ := onInt.out h
  replace h := h'
  obtain ⟨b, hb1, hb2⟩ := bt_eq s hb
  exact ⟨_, h, fun a hH w => by
    simp only [execOp, hH.eval hu, hH.eval hv]
    simp only [Instr.index, asIntOf, Sem.run_bind, Sem.run_pure, Result.andThen, run_underlying ht, if_pos hb.1, hb1, hb2]⟩

theorem elt_out {agg : Bool} {cs : Array Value} {off sz : Nat} {e : TypeId} (hz : szOf P e = some sz) (ha : aggOf P e = some agg) (h : eltVC agg cs.toList off sz K) :
    ∃ v, K v ∧ ∀ w, (part e cs off).run P w = .ok v w := by
  cases agg with
  | true =>
    obtain ⟨vs, hv, k⟩ := h
    rw [frc_eq] at k
    obtain ⟨h1, h2⟩ := cutL_eq _ _ _ _ hv
    refine ⟨_, k, fun w => ?_⟩
    have : cs.extract off (off + sz) = vs.toArray := by
      apply Array.toList_inj.1
      rw [Array.toList_extract, h1]
      simp [List.extract, Nat.add_sub_cancel_left]
    simp [part, aggOf_run ha, szOf_run hz, this]
  | false =>
    obtain ⟨v, hv, k⟩ := h
    rw [nth_eq] at hv
    have hv' : cs[off]? = some v := by simpa using hv
    exact ⟨v, k, fun w => by simp [part, aggOf_run ha, hv']⟩

theorem fine_elt {t e : TypeId} {x i : Operand} {len sz : Nat} {agg : Bool} (ht : P.underlying t = some (.array len e)) (hz : szOf P e = some sz) (ha : aggOf P e = some agg)
    (h : peVC ρ (.elt x i len sz agg) K) : Fine P ρ ⟨dst, .index t x i, ty, pos, after, g⟩ K := by
  obtain ⟨u, hu, h⟩ := evK.out h
  obtain ⟨cs, rfl, h'⟩ := onAgg.out h
  replace h := h'
  obtain ⟨v, hv, h⟩ := evK.out h
  obtain ⟨k, n, rfl, hb, h'⟩ := onInt.out h
  replace h := h'
  obtain ⟨r, kr, hr⟩ := elt_out hz ha h
  exact ⟨r, kr, fun a hH w => by
    simp only [execOp, hH.eval hu, hH.eval hv]
    simp [Instr.index, asIntOf, run_underlying ht, hb, szOf_run hz, hr]⟩

theorem fine_part {t : TypeId} {x : Operand} {f sz : Nat} {agg : Bool} {fs : Array Field} {fd : Field} (ht : P.underlying t = some (.struct fs)) (hf : fs[f]? = some fd)
    (hz : szOf P fd.type = some sz) (ha : aggOf P fd.type = some agg) (h : peVC ρ (.part x fd.offset sz agg) K) : Fine P ρ ⟨dst, .field t x f, ty, pos, after, g⟩ K := by
  obtain ⟨u, hu, h⟩ := evK.out h
  obtain ⟨cs, rfl, h'⟩ := onAgg.out h
  replace h := h'
  obtain ⟨r, kr, hr⟩ := elt_out hz ha h
  exact ⟨r, kr, fun a hH w => by
    simp only [execOp, hH.eval hu]
    simp [Instr.field, run_underlying ht, hf, asAgg, hr]⟩

theorem lo_out {lo : Option Operand} {K : Int → Prop} (h : loK ρ lo K) : (lo = none ∧ K 0) ∨ ∃ x k n, lo = some x ∧ ev ρ x = some (.int k n) ∧ K n := by
  cases lo with
  | none => exact .inl ⟨rfl, h⟩
  | some x =>
    obtain ⟨u, hu, h⟩ := evK.out h
    obtain ⟨k, n, rfl, h'⟩ := onInt.out h
    exact .inr ⟨x, k, n, rfl, hu, h'⟩

theorem hi_out {hi : Option Operand} {d : Nat} {K : Int → Prop} (h : hiK ρ hi d K) : (hi = none ∧ K d) ∨ ∃ x k n, hi = some x ∧ ev ρ x = some (.int k n) ∧ K n := by
  cases hi with
  | none => exact .inl ⟨rfl, h⟩
  | some x =>
    obtain ⟨u, hu, h⟩ := evK.out h
    obtain ⟨k, n, rfl, h'⟩ := onInt.out h
    exact .inr ⟨x, k, n, rfl, hu, h'⟩

/-- The bounds of a slice expression, as the model takes them. -/
theorem bounds_out {lo hi : Option Operand} {len cap : Nat} {isSl : Bool} {K : Int → Int → Prop} (h : loK ρ lo fun l => hiK ρ hi len fun h => Sure (0 ≤ l ∧ l ≤ h ∧ h ≤ cap) (K l h)) :
    ∃ l h : Int, 0 ≤ l ∧ l ≤ h ∧ h ≤ cap ∧ K l h ∧ (lo = none → l = 0) ∧ ∀ a, Holds ρ a → ∀ w, (Instr.sliceBounds isSl len cap (lo.map a.eval) (hi.map a.eval) none).run P w = .ok (l.toNat, h.toNat, cap) w := by
  rcases lo_out h with ⟨e1, h1⟩ | ⟨x, k, l, e1, el, h1⟩
  · subst e1
    rcases hi_out h1 with ⟨e2, hb, h2⟩ | ⟨y, k', m, e2, eh, hb, h2⟩
    · subst e2
      exact ⟨0, len, by omega, by omega, hb.2.2, h2, fun _ => rfl, fun a hH w => by simp [Instr.sliceBounds]⟩
    · subst e2
      exact ⟨0, m, by omega, hb.2.1, hb.2.2, h2, fun _ => rfl, fun a hH w => by simp [Instr.sliceBounds, hH.eval eh, Instr.sliceBound, asIntOf, hb.2.1, hb.2.2]⟩
  · subst e1
    rcases hi_out h1 with ⟨e2, hb, h2⟩ | ⟨y, k', m, e2, eh, hb, h2⟩
    · subst e2
      exact ⟨l, len, hb.1, hb.2.1, hb.2.2, h2, fun e => by simp at e, fun a hH w => by simp [Instr.sliceBounds, hH.eval el, Instr.sliceBound, asIntOf, hb.1, hb.2.1]⟩
    · subst e2
      have h3 : 0 ≤ m := by omega
      have h4 : l ≤ max m 0 := by omega
      exact ⟨l, m, hb.1, hb.2.1, hb.2.2, h2, fun e => by simp at e, fun a hH w => by simp [Instr.sliceBounds, hH.eval el, hH.eval eh, Instr.sliceBound, asIntOf, hb.1, hb.2.2, h3, h4]⟩

theorem fine_sub {t : TypeId} {x : Operand} {lo hi : Option Operand} (ht : P.underlying t = some .string) (h : peVC ρ (.sub x lo hi) K) :
    Fine P ρ ⟨dst, .slice t x lo hi none, ty, pos, after, g⟩ K := by
  obtain ⟨u, hu, h⟩ := evK.out h
  obtain ⟨s, rfl, h'⟩ := onStr.out h
  replace h := h'
  obtain ⟨l, m, h1, h2, h3, k, _, hr⟩ := bounds_out (P := P) (isSl := false) h
  exact ⟨_, k, fun a hH w => by
    simp only [execOp, hH.eval hu]
    simp [Instr.sliceAt, Instr.slice, run_underlying ht, hr a hH, sb]⟩

theorem sls_out {lo : Option Operand} {b o l cap sz : Nat} {K : Addr → Prop} (h0 : lo = none → l = 0) (h : slsVC lo b o l cap sz K) :
    K (if cap = l then ⟨b, o, none⟩ else Addr.add ⟨b, o, none⟩ (l * sz)) := by
  unfold slsVC at h
  split at h
  · rw [h0 rfl]; simp [Addr.add_lit, h]
  · by_cases hc : cap = l
    · rw [if_pos hc]; exact h.ht (by simpa using hc)
    · rw [if_neg hc, Addr.add_lit]; exact h.hf (by simpa using hc)

theorem fine_sls {t e : TypeId} {x : Operand} {lo hi : Option Operand} {sz : Nat} (ht : P.underlying t = some (.slice e)) (hz : szOf P e = some sz) (h : peVC ρ (.sls x lo hi sz) K) :
    Fine P ρ ⟨dst, .slice t x lo hi none, ty, pos, after, g⟩ K := by
  obtain ⟨u, hu, h⟩ := evK.out h
  rcases onSlice.out h with ⟨b, o, len, cap, rfl, h⟩ | ⟨len, cap, rfl, h⟩
  · obtain ⟨l, m, h1, h2, h3, k, h0, hr⟩ := bounds_out (P := P) (isSl := true) (K := fun l h => slsVC lo b o l.toNat cap sz fun a => K (.slice (some a) (h.toNat - l.toNat) (cap - l.toNat))) h
    have k' := sls_out (fun e => by rw [h0 e]; rfl) k
    exact ⟨_, k', fun a hH w => by
      simp only [execOp, hH.eval hu]
      simp [Instr.sliceAt, Instr.slice, run_underlying ht, hr a hH, szOf_run hz]
      split <;> rfl⟩
  · obtain ⟨l, m, h1, h2, h3, k, h0, hr⟩ := bounds_out (P := P) (isSl := true) (K := fun l h => K (.slice none (h.toNat - l.toNat) (cap - l.toNat))) h
    exact ⟨_, k, fun a hH w => by
      simp only [execOp, hH.eval hu]
      simp [Instr.sliceAt, Instr.slice, run_underlying ht, hr a hH, szOf_run hz]⟩

theorem fine_sla {t e : TypeId} {x : Operand} {lo hi : Option Operand} {n sz : Nat} (ht : P.underlying t = some (.array n e)) (hz : szOf P e = some sz) (h : peVC ρ (.sla x lo hi n sz) K) :
    Fine P ρ ⟨dst, .slice t x lo hi none, ty, pos, after, g⟩ K := by
  obtain ⟨u, hu, h⟩ := evK.out h
  obtain ⟨b, o, rfl, h'⟩ := onPtr.out h
  replace h := h'
  obtain ⟨l, m, h1, h2, h3, k, h0, hr⟩ := bounds_out (P := P) (isSl := false) (K := fun l h => slsVC lo b o l.toNat n sz fun a => K (.slice (some a) (h.toNat - l.toNat) (n - l.toNat))) h
  have k' := sls_out (fun e => by rw [h0 e]; rfl) k
  exact ⟨_, k', fun a hH w => by
    simp only [execOp, hH.eval hu]
    simp [Instr.sliceAt, run_underlying ht, Instr.sureAddr, hr a hH, szOf_run hz]⟩

theorem nthVC_out {l : List Value} {n : Nat} : NthVC l n K → ∃ v, l[n]? = some v ∧ K v | ⟨v, hv, k⟩ => ⟨v, by rw [← nth_eq]; exact hv, k⟩

theorem fine_ext {x : Operand} {i : Nat} (h : peVC ρ (.ext x i) K) : Fine P ρ ⟨dst, .extract x i, ty, pos, after, g⟩ K := by
  obtain ⟨u, hu, h⟩ := evK.out h
  obtain ⟨vs, rfl, h'⟩ := onTup.out h
  replace h := h'
  obtain ⟨v, hv, k⟩ := nthVC_out h
  have hv' : vs[i]? = some v := by simpa using hv
  exact ⟨v, k, fun a hH w => by
    simp only [execOp, hH.eval hu]
    simp [Instr.extract, hv']⟩

theorem map_eval {a : Act} (hH : Holds ρ a) {xs : Array Operand} {vs : List Value} (h : xs.toList.map (ev ρ) = vs.map some) : xs.map a.eval = vs.toArray := by
  apply Array.toList_inj.1
  simpa using hH.evals h

theorem fine_fn {f : Fn} {first cap : Array Operand} (h : peVC ρ (.fn f first.toList cap.toList) K) : Fine P ρ ⟨dst, .makeFunc f first cap, ty, pos, after, g⟩ K := by
  obtain ⟨us, hu, h⟩ := evsK.out h
  obtain ⟨vs, hv, h⟩ := evsK.out h
  exact ⟨_, h, fun a hH w => by
    simp only [execOp, map_eval hH hu, map_eval hH hv]
    simp [Instr.makeFunc]⟩

theorem fine_mki {t : TypeId} {d : TypeDesc} {x : Operand} (ht : P.underlying t = some d) (hd : ∀ ms, d ≠ .interface ms) (h : peVC ρ (.mki t x) K) :
    Fine P ρ ⟨dst, .makeInterface t x, ty, pos, after, g⟩ K := by
  obtain ⟨u, hu, h⟩ := evK.out h
  exact ⟨_, h, fun a hH w => by
    simp only [execOp, hH.eval hu]
    cases d <;> first | exact absurd rfl (hd _) | simp [Instr.makeInterface, run_underlying ht]⟩

theorem fine_nilc {x : Operand} (h : peVC ρ (.nilc x) K) : Fine P ρ ⟨dst, .nilCheck x, ty, pos, after, g⟩ K := by
  obtain ⟨u, hu, h⟩ := evK.out h
  unfold nilVC at h
  split at h
  · exact ⟨_, h, fun a hH w => by simp only [execOp, hH.eval hu]; simp⟩
  · exact ⟨_, h, fun a hH w => by simp only [execOp, hH.eval hu]; simp⟩
  · exact h.elim

theorem eqk_out {t : TypeId} {q : EqK} (h : eqkOf P t = some q) : match q with
    | .bool => P.underlying t = some .bool
    | .ptr => ∃ e, P.underlying t = some (.pointer e)
    | .slice => ∃ e, P.underlying t = some (.slice e)
    | .map => ∃ e f, P.underlying t = some (.map e f)
    | .func => ∃ e f g, P.underlying t = some (.func e f g)
    | .iface => ∃ e, P.underlying t = some (.interface e) := by
  unfold eqkOf at h
  split at h
  · cases h; assumption
  · split at h <;> cases h; exact ⟨_, ‹_›⟩
  · cases h; exact ⟨_, ‹_›⟩
  · cases h; exact ⟨_, _, ‹_›⟩
  · cases h; exact ⟨_, _, _, ‹_›⟩
  · cases h; exact ⟨_, ‹_›⟩
  · cases h

theorem eqk_ptr {t : TypeId} (h : eqkOf P t = some .ptr) : ∃ e n, P.underlying t = some (.pointer e) ∧ szOf P e = some (n + 1) := by
  unfold eqkOf at h
  split at h <;> (try cases h)
  split at h
  · cases h
  · rename_i n hn0 hn
    obtain _ | n := n
    · exact absurd rfl hn0
    · exact ⟨_, n, ‹_›, hn⟩
  · cases h

theorem equal_of {t : TypeId} {u v : Value} {b : Bool} (h : ∀ d w, (Op.equalIn (d + 1) t u v).run P w = .ok b w) (w : World) : (Op.equal t u v).run P w = .ok b w := h 9999 w

theorem eqv_run {t : TypeId} {q : EqK} {u v : Value} {K : Bool → Prop} (hq : eqkOf P t = some q) (h : eqVC q u v K) (x y : Operand) :
    ∃ b, K b ∧ (∀ w, (Op.equal t u v).run P w = .ok b w) ∧ (∀ op w, (eqGuard op t x y u v).run P w = .ok () w) ∧
      (binOp .eql t u v = (do pure (.bool (← Op.equal t u v)))) ∧ (binOp .neq t u v = (do pure (.bool (!(← Op.equal t u v))))) := by
  have e := eqk_out hq
  unfold eqVC at h
  by_cases hp : ∃ a b, q = .ptr ∧ u = .pointer (some a) ∧ v = .pointer (some b)
  · obtain ⟨a, b, rfl, rfl, rfl⟩ := hp
    obtain ⟨t', n, e, hn⟩ := eqk_ptr hq
    obtain ⟨hb, h⟩ := h
    exact ⟨_, h, fun w => equal_of (fun d w => by simp [Op.equalIn, run_underlying e, szOf_run hn, sameAddr, hb]; rw [Bool.eq_iff_iff]; simp) w, fun op w => by cases op <;> rfl, rfl, rfl⟩
  split at h <;> (try exact h.elim) <;> (try exact absurd ⟨_, _, rfl, rfl, rfl⟩ hp) <;> (try obtain ⟨_, e⟩ := e) <;> (try obtain ⟨_, e⟩ := e) <;> (try obtain ⟨_, e⟩ := e) <;>
    exact ⟨_, h, fun w => equal_of (fun d w => by simp [Op.equalIn, run_underlying e]) w, fun op w => by cases op <;> rfl, rfl, rfl⟩

theorem fine_eql {t t2 : TypeId} {q : EqK} {x y : Operand} (hq : eqkOf P t = some q) (h : peVC ρ (.eqv q false x y) K) :
    Fine P ρ ⟨dst, .binOp .eql t x y t2, ty, pos, after, g⟩ K := by
  obtain ⟨u, hu, h⟩ := evK.out h
  obtain ⟨v, hv, h⟩ := evK.out h
  obtain ⟨b, k, h1, h2, h3, _⟩ := eqv_run hq h x y
  exact ⟨_, k, fun a hH w => by simp only [execOp, hH.eval hu, hH.eval hv, h3]; simp [h1, h2]⟩

theorem fine_neq {t t2 : TypeId} {q : EqK} {x y : Operand} (hq : eqkOf P t = some q) (h : peVC ρ (.eqv q true x y) K) :
    Fine P ρ ⟨dst, .binOp .neq t x y t2, ty, pos, after, g⟩ K := by
  obtain ⟨u, hu, h⟩ := evK.out h
  obtain ⟨v, hv, h⟩ := evK.out h
  obtain ⟨b, k, h1, h2, _, h3⟩ := eqv_run hq h x y
  exact ⟨_, k, fun a hH w => by simp only [execOp, hH.eval hu, hH.eval hv, h3]; simp [h1, h2]⟩

theorem fine_lens {t : TypeId} {x : Operand} {l : List TypeId} (ht : P.underlying t = some .string) (h : peVC ρ (.lens x) K) :
    Fine P ρ ⟨dst, .call { callee := .builtin .len, args := ⟨[x]⟩, argTypes := ⟨t :: l⟩ }, ty, pos, after, g⟩ K := by
  obtain ⟨u, hu, h⟩ := evK.out h
  obtain ⟨s, rfl, h'⟩ := onStr.out h
  exact ⟨_, h', fun a hH w => by simp [execOp, resolve, invoke, builtin, hH.eval hu, Builtin.len_, run_underlying ht, goInt]⟩

theorem onLen.out {v : Value} {K : Nat → Prop} (h : onLen v K) : ∃ b n c, v = .slice b n c ∧ K n := by
  unfold onLen at h; split at h
  · exact ⟨_, _, _, rfl, h⟩
  · exact h.elim

theorem fine_lenl {t e : TypeId} {x : Operand} {l : List TypeId} (ht : P.underlying t = some (.slice e)) (h : peVC ρ (.lenl x) K) :
    Fine P ρ ⟨dst, .call { callee := .builtin .len, args := ⟨[x]⟩, argTypes := ⟨t :: l⟩ }, ty, pos, after, g⟩ K := by
  obtain ⟨u, hu, h⟩ := evK.out h
  obtain ⟨b, n, c, rfl, h'⟩ := onLen.out h
  exact ⟨_, h', fun a hH w => by simp [execOp, resolve, invoke, builtin, hH.eval hu, Builtin.len_, run_underlying ht, goInt]⟩

theorem fine_lenc {t : TypeId} {n : Nat} {e : TypeId} {x : Operand} {l : List TypeId} (ht : P.underlying t = some (.array n e)) (h : peVC ρ (.lenc n) K) :
    Fine P ρ ⟨dst, .call { callee := .builtin .len, args := ⟨[x]⟩, argTypes := ⟨t :: l⟩ }, ty, pos, after, g⟩ K :=
  ⟨_, h, fun a hH w => by simp [execOp, resolve, invoke, builtin, Builtin.len_, run_underlying ht, goInt]⟩

theorem mm_out {isMax : Bool} {k : IntKind} : ∀ {vs : List Value} {n : Int}, mmK isMax k n vs K →
    ∃ r, K r ∧ ∀ w, (vs.foldlM (m := Sem) (if isMax then Builtin.max2 else Builtin.min2) (.int k n)).run P w = .ok r w := by
  intro vs
  induction vs with
  | nil => intro n h; exact ⟨_, h, fun w => by simp⟩
  | cons v vs ih =>
    intro n h
    cases v <;> try exact h.elim
    rename_i k' m
    cases isMax with
    | true =>
      obtain ⟨r, kr, hr⟩ := ih h
      refine ⟨r, kr, fun w => ?_⟩
      have e : (if m > n then m else n) = max n m := by omega
      simpa [Builtin.max2, e] using hr w
    | false =>
      obtain ⟨r, kr, hr⟩ := ih h
      refine ⟨r, kr, fun w => ?_⟩
      have e : (if m < n then m else n) = min n m := by omega
      simpa [Builtin.min2, e] using hr w

theorem mms_out {isMax : Bool} {vs : List Value} (h : mmsVC isMax vs K) :
    ∃ v r x, vs = v :: r ∧ K x ∧ ∀ w, (r.foldlM (m := Sem) (if isMax then Builtin.max2 else Builtin.min2) v).run P w = .ok x w := by
  unfold mmsVC at h
  split at h
  · obtain ⟨x, kx, hx⟩ := mm_out (P := P) h
    exact ⟨_, _, x, rfl, kx, hx⟩
  · exact h.elim

theorem fine_max {xs : Array Operand} {ats : Array TypeId} (h : peVC ρ (.mm true xs.toList) K) :
    Fine P ρ ⟨dst, .call { callee := .builtin .max, args := xs, argTypes := ats }, ty, pos, after, g⟩ K := by
  obtain ⟨vs, hv, h⟩ := evsK.out h
  obtain ⟨v, r, x, rfl, kx, hx⟩ := mms_out (P := P) h
  exact ⟨x, kx, fun a hH w => by
    have hx' := hx w
    simp only [if_true] at hx'
    simp [execOp, resolve, invoke, builtin, map_eval hH hv, Builtin.max_, hx']⟩

theorem fine_min {xs : Array Operand} {ats : Array TypeId} (h : peVC ρ (.mm false xs.toList) K) :
    Fine P ρ ⟨dst, .call { callee := .builtin .min, args := xs, argTypes := ats }, ty, pos, after, g⟩ K := by
  obtain ⟨vs, hv, h⟩ := evsK.out h
  obtain ⟨v, r, x, rfl, kx, hx⟩ := mms_out (P := P) h
  exact ⟨x, kx, fun a hH w => by
    have hx' := hx w
    simp only [Bool.false_eq_true, if_false] at hx'
    simp [execOp, resolve, invoke, builtin, map_eval hH hv, Builtin.min_, hx']⟩

/-! Writing into a list of cells. -/
theorem setL_eq : ∀ (l : List Value) (k : Nat) (vs r : List Value), setL l k vs = some r →
    r.length = l.length ∧ k + vs.length ≤ l.length ∧ ∀ i, r[i]? = if k ≤ i ∧ i < k + vs.length then vs[i - k]? else l[i]? := by
  intro l
  induction l with
  | nil =>
    intro k vs r h
    cases k <;> cases vs <;> simp [setL] at h
    subst h; simp
  | cons x l ih =>
    intro k vs r h
    cases k with
    | zero =>
      cases vs with
      | nil => simp [setL] at h; subst h; simp
      | cons v vs =>
        simp only [setL] at h
        split at h
        · rename_i r' hr'
          cases h
          obtain ⟨h1, h2, h3⟩ := ih 0 vs r' hr'
          refine ⟨by simp [h1], by simp; omega, fun i => ?_⟩
          cases i with
          | zero => simp
          | succ i =>
            have := h3 i
            simp only [List.getElem?_cons_succ, this]
            simp
        · cases h
    | succ k =>
      simp only [setL] at h
      split at h
      · rename_i r' hr'
        cases h
        obtain ⟨h1, h2, h3⟩ := ih k vs r' hr'
        refine ⟨by simp [h1], by simp; omega, fun i => ?_⟩
        cases i with
        | zero => simp
        | succ i =>
          have := h3 i
          simp only [List.getElem?_cons_succ, this]
          by_cases hc : k ≤ i ∧ i < k + vs.length
          · rw [if_pos hc, if_pos (by omega)]; congr 1; omega
          · rw [if_neg hc, if_neg (by omega)]
      · cases h

theorem fill_step (off : Nat) : ∀ (vs : List Value) (cells : Array Value) (n : Nat), off + n + vs.length ≤ cells.size →
    ((vs.zipIdx n).foldl (fun cs (c, j) => cs.setIfInBounds (off + j) c) cells).size = cells.size ∧
    ∀ i, ((vs.zipIdx n).foldl (fun cs (c, j) => cs.setIfInBounds (off + j) c) cells)[i]? = if off + n ≤ i ∧ i < off + n + vs.length then vs[i - (off + n)]? else cells[i]? := by
  intro vs
  induction vs with
  | nil => intro cells n h; simp; intro i; omega
  | cons v vs ih =>
    intro cells n h
    simp only [List.length_cons] at h
    simp only [List.zipIdx_cons, List.foldl_cons]
    obtain ⟨h1, h2⟩ := ih (cells.setIfInBounds (off + n) v) (n + 1) (by simp; omega)
    refine ⟨by simpa using h1, fun i => ?_⟩
    rw [h2 i]
    simp only [List.length_cons]
    by_cases hc : off + (n + 1) ≤ i ∧ i < off + (n + 1) + vs.length
    · rw [if_pos hc, if_pos (by omega)]
      have : i - (off + n) = (i - (off + (n + 1))) + 1 := by omega
      rw [this]; simp
    · rw [if_neg hc]
      by_cases hi : i = off + n
      · subst hi
        rw [if_pos (by omega)]
        have : off + n < cells.size := by omega
        simp [this]
      · rw [if_neg (by omega), Array.getElem?_setIfInBounds_ne (Ne.symm hi)]

theorem fill_one {place : Nat → Option (Nat × Nat)} {i off sz : Nat} {v : Value} {cells : Array Value} {rest : List (Nat × Value)} {r : List Value} (hp : place i = some (off, sz))
    (hl : v.cells.toList.length = sz) (h : setL cells.toList off v.cells.toList = some r) :
    Instr.fill place cells ((i, v) :: rest) = Instr.fill place r.toArray rest := by
  obtain ⟨h1, h2, h3⟩ := setL_eq _ _ _ _ h
  have hsz : v.cells.size = sz := by simpa using hl
  have hbig : off + v.cells.size ≤ cells.size := by simpa using h2
  simp only [Instr.fill, hp]
  have hc : (decide (v.cells.size ≠ sz) || decide (off + v.cells.size > cells.size)) = false := by simp [hsz]; omega
  rw [if_neg (by rw [hc]; simp)]
  congr 1
  obtain ⟨g1, g2⟩ := fill_step off v.cells.toList cells 0 (by simpa using hbig)
  apply Array.ext_getElem?
  intro j
  have : v.cells.zipIdx.foldl (fun cs (c, j) => cs.setIfInBounds (off + j) c) cells = (v.cells.toList.zipIdx 0).foldl (fun cs (c, j) => cs.setIfInBounds (off + j) c) cells := by
    rw [← Array.foldl_toList, Array.toList_zipIdx]
  rw [this, g2 j]
  simp only [Nat.add_zero, List.getElem?_toArray, h3 j, Array.getElem?_toList]

theorem bld_out {place : Nat → Option (Nat × Nat)} : ∀ (parts : List (Nat × Operand)) (ps : List (Nat × Nat × Operand)) (cur : List Value) (K : List Value → Prop),
    parts.length = ps.length → (∀ (j i : Nat) (x : Operand), parts[j]? = some (i, x) → ∃ off sz, place i = some (off, sz) ∧ ps[j]? = some (off, sz, x)) → bldK ρ ps cur K →
    ∃ r, K r ∧ ∀ a, Holds ρ a → Instr.fill place cur.toArray (parts.map fun (i, x) => (i, a.eval x)) = some r.toArray := by
  intro parts
  induction parts with
  | nil =>
    intro ps cur K hl _ h
    cases ps with
    | nil => simp only [bldK, frc_eq] at h; exact ⟨cur, h, fun _ _ => rfl⟩
    | cons _ _ => simp at hl
  | cons p parts ih =>
    intro ps cur K hl hp h
    cases ps with
    | nil => simp at hl
    | cons q ps =>
      obtain ⟨i, x⟩ := p
      obtain ⟨off, sz, h1, h2⟩ := hp 0 i x rfl
      simp at h2; subst h2
      simp only [bldK] at h
      obtain ⟨v, hv, h⟩ := evK.out h
      split at h
      · rename_i hlen
        split at h
        · rename_i cur' hcur
          obtain ⟨r, kr, hr⟩ := ih ps cur' K (by simpa using hl) (fun j i x hj => hp (j + 1) i x hj) h
          refine ⟨r, kr, fun a hH => ?_⟩
          simp only [List.map_cons, hH.eval hv]
          rw [fill_one h1 (Nat.eq_of_beq_eq_true hlen) (by simpa using hcur)]
          exact hr a hH
        · exact h.elim
      · exact h.elim


theorem allSized_run : ∀ (fs : List Field), allSized P fs = true → ∀ w, (fs.mapM (m := Sem) fun f => Prod.mk f.offset <$> sizeOf f.type).run P w = .ok (fs.map fun f => (f.offset, (szOf P f.type).getD 0)) w := by
  intro fs
  induction fs with
  | nil => intro _ w; simp
  | cons f fs ih =>
    intro h w
    simp only [allSized, Bool.and_eq_true] at h
    obtain ⟨n, hn⟩ := Option.isSome_iff_exists.1 h.1
    simp [List.mapM_cons, szOf_run hn, ih h.2, hn]

theorem partsOf_out {fs : Array Field} : ∀ (parts : List (Nat × Operand)) (ps : List (Nat × Nat × Operand)), partsOf P fs parts = some ps →
    parts.length = ps.length ∧ ∀ (j i : Nat) (x : Operand), parts[j]? = some (i, x) → ∃ off sz, (fs.map fun f => (f.offset, (szOf P f.type).getD 0))[i]? = some (off, sz) ∧ ps[j]? = some (off, sz, x) := by
  intro parts
  induction parts with
  | nil => intro ps h; simp [partsOf] at h; subst h; simp
  | cons p parts ih =>
    intro ps h
    obtain ⟨i, x⟩ := p
    simp only [partsOf, lit_eq] at h
    obtain ⟨f, hf, h⟩ := optOf_some h
    obtain ⟨sz, hsz, h⟩ := optOf_some h
    obtain ⟨ps', hps, h⟩ := optOf_some h
    cases h
    obtain ⟨h1, h2⟩ := ih ps' hps
    refine ⟨by simp [h1], fun j i' x' hj => ?_⟩
    cases j with
    | zero =>
      simp at hj
      obtain ⟨rfl, rfl⟩ := hj
      exact ⟨f.offset, sz, by simp [hf, hsz], by simp⟩
    | succ j => simpa using h2 j i' x' (by simpa using hj)

theorem fine_build {t : TypeId} {parts : Array (Nat × Operand)} {fs : Array Field} {i : TypeInfo} {z : Value} {ps : List (Nat × Nat × Operand)} (ht : P.underlying t = some (.struct fs))
    (hi : P.info? t = some i) (hz : i.zero = some z) (hs : allSized P fs.toList = true) (hp : partsOf P fs parts.toList = some ps) (h : peVC ρ (.build z.cells.toList ps) K) :
    Fine P ρ ⟨dst, .build t parts, ty, pos, after, g⟩ K := by
  obtain ⟨h1, h2⟩ := partsOf_out _ _ hp
  obtain ⟨r, kr, hr⟩ := bld_out (place := fun i => (fs.map fun f => (f.offset, (szOf P f.type).getD 0))[i]?) parts.toList ps _ _ h1 h2 h
  refine ⟨_, kr, fun a hH w => ?_⟩
  have hm : (fs.mapM (m := Sem) fun f => Prod.mk f.offset <$> sizeOf f.type).run P w = .ok (fs.map fun f => (f.offset, (szOf P f.type).getD 0)) w := by
    rw [Array.mapM_eq_mapM_toList]
    simp only [Sem.run_map]
    rw [allSized_run _ hs]
    simp only [Result.andThen]
    congr 1
    apply Array.toList_inj.1
    simp
  have hr' : Instr.fill (fun x => Option.map (fun f => (f.offset, (szOf P f.type).getD 0)) fs[x]?) z.cells (List.map (fun x => (x.fst, a.eval x.snd)) parts.toList) = some r.toArray := by
    simpa only [Array.getElem?_map] using hr a hH
  simp only [execOp]
  simp [Instr.build, zeroValue, typeInfo, hi, hz, run_underlying ht, hm, hr']

theorem fine_builda {t e : TypeId} {n : Nat} {parts : Array (Nat × Operand)} {i : TypeInfo} {z : Value} {sz : Nat} (ht : P.underlying t = some (.array n e))
    (hi : P.info? t = some i) (hz : i.zero = some z) (hs : szOf P e = some sz) (h : peVC ρ (.build z.cells.toList (parts.toList.map fun (i, x) => (i * sz, sz, x))) K) :
    Fine P ρ ⟨dst, .build t parts, ty, pos, after, g⟩ K := by
  obtain ⟨r, kr, hr⟩ := bld_out (place := fun i => some (i * sz, sz)) parts.toList _ _ _ (by simp) (fun j i x hj => ⟨_, _, rfl, by simp at hj; simp [hj]⟩) h
  refine ⟨_, kr, fun a hH w => ?_⟩
  have hr' : Instr.fill (fun i => some (i * sz, sz)) z.cells (List.map (fun x => (x.fst, a.eval x.snd)) parts.toList) = some r.toArray := hr a hH
  simp only [execOp]
  simp [Instr.build, zeroValue, typeInfo, hi, hz, run_underlying ht, szOf_run hs, hr']

end

theorem pe_sound {P : Program} {o : Oper} {e : PE} (hc : compP P o.op = some e) {ρ : Env} {K : Value → Prop} (h : peVC ρ e K) : Fine P ρ o K := by
  obtain ⟨dst, op, ty, pos, after, g⟩ := o
  simp only at hc
  unfold compP at hc
  simp only [lit_eq] at hc
  split at hc
  · cases hc; exact fine_mv h
  · cases hc; exact fine_as h
  · cases hc; exact fine_pick h
  · split at hc
    · cases hc; exact fine_bin h
    · obtain ⟨q, hq, hc⟩ := optOf_some hc; cases hc; exact fine_eql hq h
    · obtain ⟨q, hq, hc⟩ := optOf_some hc; cases hc; exact fine_neq hq h
    · cases hc
  · cases hc; exact fine_no h
  · cases hc; exact fine_neg h
  · cases hc; exact fine_cpl h
  · split at hc
    · cases hc; exact fine_conv ‹_› ‹_› h
    · split at hc
      · cases hc; exact fine_convs ‹_› ‹_› h
      · cases hc
  · split at hc
    · obtain ⟨fd, hf, hc⟩ := optOf_some hc
      split at hc
      · cases hc; exact fine_fld ‹_› hf ‹_› h
      · cases hc
    · cases hc
  · split at hc
    · obtain ⟨sz, hz, hc⟩ := optOf_some hc; cases hc; exact fine_ixa ‹_› hz h
    · obtain ⟨sz, hz, hc⟩ := optOf_some hc; cases hc; exact fine_ixs ‹_› hz h
    · cases hc
  · split at hc
    · cases hc; exact fine_byt ‹_› h
    · obtain ⟨sz, hz, hc⟩ := optOf_some hc
      obtain ⟨ag, ha, hc⟩ := optOf_some hc
      cases hc; exact fine_elt ‹_› hz ha h
    · cases hc
  · split at hc
    · cases hc; exact fine_sub ‹_› h
    · obtain ⟨sz, hz, hc⟩ := optOf_some hc; cases hc; exact fine_sls ‹_› hz h
    · obtain ⟨sz, hz, hc⟩ := optOf_some hc; cases hc; exact fine_sla ‹_› hz h
    · cases hc
  · split at hc
    · obtain ⟨fd, hf, hc⟩ := optOf_some hc
      obtain ⟨sz, hz, hc⟩ := optOf_some hc
      obtain ⟨ag, ha, hc⟩ := optOf_some hc
      cases hc; exact fine_part ‹_› hf hz ha h
    · cases hc
  · cases hc; exact fine_ext h
  · cases hc; exact fine_fn h
  · split at hc
    · cases hc
    · cases hc; exact fine_mki ‹_› (by rintro ms rfl; simp_all) h
    · cases hc
  · split at hc
    · obtain ⟨i, hi, hc⟩ := optOf_some hc
      obtain ⟨z, hz, hc⟩ := optOf_some hc
      split at hc
      · obtain ⟨ps, hp, hc⟩ := optOf_some hc
        cases hc; exact fine_build ‹_› hi hz ‹_› hp h
      · cases hc
    · obtain ⟨i, hi, hc⟩ := optOf_some hc
      obtain ⟨z, hz, hc⟩ := optOf_some hc
      obtain ⟨sz, hs, hc⟩ := optOf_some hc
      cases hc; exact fine_builda ‹_› hi hz hs h
    · cases hc
  · split at hc
    · split at hc
      · cases hc; exact fine_lens ‹_› h
      · cases hc; exact fine_lenl ‹_› h
      · cases hc; exact fine_lenc ‹_› h
      · cases hc
    · cases hc
  · cases hc; exact fine_max h
  · cases hc; exact fine_min h
  · cases hc; exact fine_nilc h
  · cases hc

end Go.Sv
