/- From a contract to the walk that a statement asks for. -/
import Derived.Test.YtccofnngpijihaaGreatVc7
import Derived.RowKit3
import Derived.ChangeSame
set_option linter.all false
namespace Go.Sv
open RowKit RowKit.Below

def allOf (w : World) : List Ent := (List.range w.heap.size).filterMap fun i => (w.heap[i]?).map fun o => (i, o)

theorem mem_allOf {w : World} {e : Ent} : e ∈ allOf w ↔ w.heap[e.1]? = some e.2 := by
  obtain ⟨i, o⟩ := e
  simp only [allOf, List.mem_filterMap, List.mem_range, Option.map_eq_some_iff]
  constructor
  · rintro ⟨j, _, o', h, heq⟩
    cases heq
    exact h
  · intro h
    exact ⟨i, (Array.getElem?_eq_some_iff.1 h).1, o, h, rfl⟩

theorem allOf_fst (w : World) : (allOf w).map Prod.fst = List.range w.heap.size := by
  have : ∀ n, n ≤ w.heap.size → ((List.range n).filterMap fun i => (w.heap[i]?).map fun o => (i, o)).map Prod.fst = List.range n := by
    intro n
    induction n with
    | zero => intro _; rfl
    | succ n ih =>
      intro h
      rw [List.range_succ, List.filterMap_append, List.map_append, ih (by omega)]
      have : w.heap[n]? = some w.heap[n] := by simp
      simp [this]
  exact this _ (Nat.le_refl _)

theorem ok_all (w : World) : Ok (allOf w) [] w w :=
  ⟨fun e he => mem_allOf.1 (by simpa using he), by simp only [flat_nil, List.nil_append, allOf_fst]; exact List.nodup_range, Ext.refl w⟩

theorem walk_of {P : Program} {f : FuncId} {args : List Value} {v : Value} (h : Spec P f args [] (Rets fun u _ => u = v)) (w : World) : Calls P f args.toArray w fun e w' => e = .returned v ∧ Below w.heap.size w w' := by
  refine (h _ w w (ok_all w)).mono fun e w' he => ?_
  obtain ⟨o, H', rfl, hp, hok⟩ := he
  cases o with
  | panic c => exact hp.elim
  | ret u =>
    cases hp
    have hb : ∀ k, k < w.heap.size → w'.heap[k]? = w.heap[k]? := by
      intro k hk
      have h1 : w.heap[k]? = some w.heap[k] := by simp [hk]
      rw [h1]
      exact hok.sat (k, w.heap[k]) (List.mem_append.2 (.inr (mem_allOf.2 h1)))
    refine ⟨rfl, hok.ext.os, hok.ext.tape, hok.ext.output, ?_, hb⟩
    rcases Nat.eq_zero_or_pos w.heap.size with h0 | h0
    · omega
    · have h1 := hb (w.heap.size - 1) (by omega)
      have h2 : w.heap[w.heap.size - 1]? = some w.heap[w.heap.size - 1] := by simp
      rw [h2] at h1
      have := (Array.getElem?_eq_some_iff.1 h1).1
      omega

theorem post_below {H : Type} {enc : TypeId × Value → H} {P : Program} {f : Func} {s : ChangeSpec} {apart fresh : Bool} {W W' : World} {args : Array Value} {v : Value} {ds gs : List (DataW H)} {before pa pv : List MemPlace}
    (hW : DataW.Whole enc P f.params.toList s.vars apart W args.toList ds gs before)
    (hres : ∀ (b : Nat) (sp : Nat → Bool) (hd : Bool), DataW.TrodAll enc P W' b sp hd f.resultTypes.toList (v.resultList f.resultTypes.size) (s.fn H (ds ++ gs)).results [])
    (hargs : ∀ sp : Nat → Bool, (∀ p ∈ before, sp p.block = true) → DataW.TrodAll enc P W' 0 sp true f.params.toList args.toList (s.fn H (ds ++ gs)).args pa)
    (hvars : ∀ sp : Nat → Bool, (∀ p ∈ before, sp p.block = true) → DataW.TrodVars enc P W' sp s.vars (s.fn H (ds ++ gs)).vars pv)
    (hb : Below W.heap.size W W') : s.post enc P f apart fresh false false W args v W' := by
  have hold : ∀ p ∈ before, (fun b => decide (b < W.heap.size)) p.block = true := fun p hp => by simpa using hW.lt p hp
  exact ⟨ds, gs, before, [], pa, pv, hW, hres _ _ _, hargs _ hold, hvars _ hold, hb.frame _, fun h => by cases h⟩
end Go.Sv
