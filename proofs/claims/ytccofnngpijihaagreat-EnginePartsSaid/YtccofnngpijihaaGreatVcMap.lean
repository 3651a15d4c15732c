/- Maps. -/
import Derived.Test.YtccofnngpijihaaGreatVc13
import Derived.Maps.Keyed
import Derived.Laws.IdiomRangeMap
set_option linter.all false
namespace Go.Sv
open Go.Maps (Keyed)
set_option linter.unusedSectionVars false
set_option linter.unusedVariables false

/-- Entries: keys and values. -/
def get {K V : Type} [DecidableEq K] : List (K × V) → K → Option V
  | [], _ => none
  | (k, v) :: l, a => if k = a then some v else get l a
def put {K V : Type} [DecidableEq K] : List (K × V) → K → V → List (K × V)
  | [], a, x => [(a, x)]
  | (k, v) :: l, a, x => if k = a then (k, x) :: l else (k, v) :: put l a x
def del {K V : Type} [DecidableEq K] : List (K × V) → K → List (K × V)
  | [], _ => []
  | (k, v) :: l, a => if k = a then l else (k, v) :: del l a

/-- A kind of keys, as values of a type. -/
structure KeyK (P : Program) (kt : TypeId) {K : Type} (enc : K → Value) (dom : K → Prop) : Prop where
  keyed : Keyed P kt
  ok : ∀ a, dom a → ∃ l, keyOf P kt (enc a) = some l
  inj : ∀ a b, enc a = enc b → a = b

def entsOf {K : Type} (enc : K → Value) (L : List (K × Value)) (bs : List Nat) : List MapEntry := List.zipWith (fun p b => ⟨enc p.1, p.2, b⟩) L bs

/-- A map's memory. -/
structure MapR {K : Type} (enc : K → Value) (dom : K → Prop) (L : List (K × Value)) (bs : List Nat) (clock : Nat) (o : Obj) : Prop where
  obj : o = .map (entsOf enc L bs).toArray clock
  len : bs.length = L.length
  nodup : bs.Nodup
  lt : ∀ b ∈ bs, b < clock
  keys : ∀ p ∈ L, dom p.1
  apart : (L.map Prod.fst).Nodup

section
variable {K : Type} [DecidableEq K] {enc : K → Value} {dom : K → Prop} {P : Program} {kt : TypeId}

theorem entsOf_cons (p : K × Value) (L : List (K × Value)) (b : Nat) (bs : List Nat) : entsOf enc (p :: L) (b :: bs) = ⟨enc p.1, p.2, b⟩ :: entsOf enc L bs := rfl

theorem entsOf_get {L : List (K × Value)} {bs : List Nat} (h : bs.length = L.length) (i : Nat) : (entsOf enc L bs)[i]? = (L[i]?).bind fun p => (bs[i]?).map fun b => ⟨enc p.1, p.2, b⟩ := by
  simp only [entsOf, List.getElem?_zipWith]
  cases hL : L[i]? <;> cases hb : bs[i]? <;> simp

theorem entsOf_len {L : List (K × Value)} {bs : List Nat} (h : bs.length = L.length) : (entsOf enc L bs).length = L.length := by simp [entsOf, h]

theorem mem_entsOf {L : List (K × Value)} {bs : List Nat} {e : MapEntry} (h : e ∈ entsOf enc L bs) : ∃ p ∈ L, ∃ b ∈ bs, e = ⟨enc p.1, p.2, b⟩ := by
  unfold entsOf at h
  rw [List.mem_iff_getElem?] at h
  obtain ⟨i, hi⟩ := h
  rw [List.getElem?_zipWith] at hi
  cases hL : L[i]? with
  | none => simp [hL] at hi
  | some p =>
    cases hb : bs[i]? with
    | none => simp [hL, hb] at hi
    | some b =>
      simp [hL, hb] at hi
      exact ⟨p, List.mem_of_getElem? hL, b, List.mem_of_getElem? hb, hi.symm⟩

/-- What a search finds. -/
theorem find_spec (KK : KeyK P kt enc dom) (a : K) (ha : dom a) (L : List (K × Value)) (bs : List Nat) (h : bs.length = L.length) (hk : ∀ p ∈ L, dom p.1) (hn : (L.map Prod.fst).Nodup) (w : World) :
    ((Instr.findKey kt (enc a) (entsOf enc L bs)).run P w = .ok none w ∧ get L a = none) ∨
    ∃ j v, (Instr.findKey kt (enc a) (entsOf enc L bs)).run P w = .ok (some (j, v)) w ∧ L[j]? = some (a, v) ∧ get L a = some v := by
  obtain ⟨l, hl⟩ := KK.ok a ha
  have hread : ∀ e ∈ entsOf enc L bs, ∃ l, keyOf P kt e.key = some l := by
    intro e he
    obtain ⟨p, hp, b, hb, rfl⟩ := mem_entsOf he
    exact KK.ok p.1 (hk p hp)
  have getNone : (∀ p ∈ L, p.1 ≠ a) → get L a = none := by
    intro hne
    clear hread h hk hn
    induction L with
    | nil => rfl
    | cons p L ih =>
      obtain ⟨k, v⟩ := p
      simp only [get]
      rw [if_neg (hne (k, v) (by simp))]
      exact ih (fun q hq => hne q (by simp [hq]))
  have getSome : ∀ (j : Nat) (v : Value), L[j]? = some (a, v) → get L a = some v := by
    clear hread h hk getNone
    induction L with
    | nil => intro j v h; simp at h
    | cons p L ih =>
      obtain ⟨k, u⟩ := p
      intro j v h
      simp only [List.map_cons, List.nodup_cons] at hn
      cases j with
      | zero => simp at h; simp [get, h]
      | succ j =>
        simp only [List.getElem?_cons_succ] at h
        simp only [get]
        rw [if_neg (fun e => hn.1 (by rw [e]; exact List.mem_map.2 ⟨(a, v), List.mem_of_getElem? h, rfl⟩))]
        exact ih hn.2 j v h
  rcases KK.keyed.find w hl (entsOf enc L bs) hread with ⟨h1, h2⟩ | ⟨j, e, h1, h2, h3⟩
  · refine .inl ⟨h1, getNone fun p hp e => ?_⟩
    obtain ⟨i, hi⟩ := List.mem_iff_getElem?.1 hp
    have hlt : i < L.length := (List.getElem?_eq_some_iff.1 hi).1
    have hb : ∃ b, bs[i]? = some b := ⟨bs[i]'(by omega), by simp [h, hlt]⟩
    obtain ⟨b, hb⟩ := hb
    have := entsOf_get (enc := enc) h i
    rw [hi, hb] at this
    exact h2 _ (List.mem_of_getElem? this) (by simp [e])
  · rw [entsOf_get h] at h2
    cases hL : L[j]? with
    | none => simp [hL] at h2
    | some p =>
      cases hb : bs[j]? with
      | none => simp [hL, hb] at h2
      | some b =>
        simp [hL, hb] at h2
        subst h2
        have hpa : p.1 = a := KK.inj _ _ h3
        obtain ⟨k, v⟩ := p
        simp only at hpa
        subst hpa
        exact .inr ⟨j, v, h1, hL, getSome j v hL⟩

def mapTy (P : Program) (t kt et : TypeId) : Bool :=
  match P.underlying t with
  | some (.map k e) => Nat.beq k kt && Nat.beq e et
  | _ => false
theorem mapTy.out {t kt et : TypeId} (h : mapTy P t kt et = true) : P.underlying t = some (.map kt et) := by
  unfold mapTy at h
  split at h
  · rename_i k e h1
    rw [Bool.and_eq_true] at h
    have h2 := Nat.eq_of_beq_eq_true h.1
    have h3 := Nat.eq_of_beq_eq_true h.2
    subst h2; subst h3
    exact h1
  · cases h

def zeroIs (P : Program) (et : TypeId) (z : Value) : Prop := ∃ i, P.info? et = some i ∧ i.zero = some z
theorem zeroIs.run {et : TypeId} {z : Value} (h : zeroIs P et z) (w : World) : (zeroValue et).run P w = .ok z w := by
  obtain ⟨i, hi, hz⟩ := h
  simp [zeroValue, typeInfo, hi, hz]

/-- What a look-up gives. -/
def lookV (c : Bool) (z : Value) (r : Option Value) : Value :=
  match c, r with
  | true, some v => .tuple #[v, .bool true]
  | true, none => .tuple #[z, .bool false]
  | false, some v => v
  | false, none => z

/-- m[k] -/
theorem RawRd.look {t et : TypeId} {H : HL} {k : Value → Prop} {L : List (K × Value)} {bs : List Nat} {clock : Nat} {m : Nat} {o : Obj} {z : Value} {c : Bool} (KK : KeyK P kt enc dom) (ht : mapTy P t kt et = true) (hz : zeroIs P et z)
    (R : MapR enc dom L bs clock o) (i : Nat) (hm : nth H i = some (.one m o)) (a : K) (ha : dom a) (h : k (lookV c z (get L a))) : RawRd P (Instr.lookup t (.map (some m)) (enc a) c) H k := by
  refine ⟨_, fun F w0 w hk => ?_, h⟩
  have hb := hk.get (mem_of_nth hm)
  rw [R.obj] at hb
  obtain ⟨l, hl⟩ := KK.ok a ha
  have hc := fun em => KK.keyed.check w em hl
  rcases find_spec KK a ha L bs R.len R.keys R.apart w with ⟨h1, h2⟩ | ⟨j, v, h1, _, h2⟩
  · rw [h2]
    cases c <;> simp [Instr.lookup, run_underlying (mapTy.out ht), MapKept.run_getObj_map hb, hc, h1, hz.run, Result.andThen, lookV]
  · rw [h2]
    cases c <;> simp [Instr.lookup, run_underlying (mapTy.out ht), MapKept.run_getObj_map hb, hc, h1, Result.andThen, lookV]

/-- m[k] of nil -/
theorem RawRd.lookN {t et : TypeId} {H : HL} {k : Value → Prop} {z : Value} {c : Bool} (KK : KeyK P kt enc dom) (ht : mapTy P t kt et = true) (hz : zeroIs P et z)
    (a : K) (ha : dom a) (h : k (lookV c z none)) : RawRd P (Instr.lookup t (.map none) (enc a) c) H k := by
  refine ⟨_, fun F w0 w hk => ?_, h⟩
  obtain ⟨l, hl⟩ := KK.ok a ha
  have hc := KK.keyed.check w true hl
  have h0 : (Instr.findKey kt (enc a) []).run P w = .ok none w := by
    rcases KK.keyed.find w hl [] (by simp) with ⟨h1, _⟩ | ⟨j, e, _, h2, _⟩
    · exact h1
    · simp at h2
  cases c <;> simp [Instr.lookup, run_underlying (mapTy.out ht), hc, h0, hz.run, Result.andThen, lookV]

theorem RawRd.lenm {t et : TypeId} {H : HL} {k : Value → Prop} {L : List (K × Value)} {bs : List Nat} {clock : Nat} {m : Nat} {o : Obj} (ht : mapTy P t kt et = true)
    (R : MapR enc dom L bs clock o) (i : Nat) (hm : nth H i = some (.one m o)) {n : Int} (hn : (L.length : Int) = n) (h : k (.int .i64 n)) : RawRd P (Builtin.len_ #[t] 0 #[.map (some m)]) H k := by
  subst hn
  refine ⟨_, fun F w0 w hk => ?_, h⟩
  have hb := hk.get (mem_of_nth hm)
  rw [R.obj] at hb
  simp [Builtin.len_, run_underlying (mapTy.out ht), MapKept.run_getObj_map hb, Result.andThen, goInt, entsOf_len R.len]

theorem put_len_none : ∀ {L : List (K × Value)} {a : K} {x : Value}, get L a = none → put L a x = L ++ [(a, x)] := by
  intro L
  induction L with
  | nil => intro a x _; rfl
  | cons p L ih =>
    intro a x h
    obtain ⟨k, v⟩ := p
    simp only [get] at h
    split at h
    · cases h
    · rename_i hne
      simp only [put]
      rw [if_neg hne, ih h]; rfl

theorem put_at : ∀ {L : List (K × Value)} {a : K} {x v : Value} {j : Nat}, (L.map Prod.fst).Nodup → L[j]? = some (a, v) → put L a x = L.set j (a, x) := by
  intro L
  induction L with
  | nil => intro a x v j _ h; simp at h
  | cons p L ih =>
    intro a x v j hn h
    obtain ⟨k, u⟩ := p
    simp only [List.map_cons, List.nodup_cons] at hn
    cases j with
    | zero => simp at h; simp [put, h]
    | succ j =>
      simp only [List.getElem?_cons_succ] at h
      simp only [put]
      rw [if_neg (fun e => hn.1 (by rw [e]; exact List.mem_map.2 ⟨(a, v), List.mem_of_getElem? h, rfl⟩)), ih hn.2 h]; rfl

theorem del_none : ∀ {L : List (K × Value)} {a : K}, get L a = none → del L a = L := by
  intro L
  induction L with
  | nil => intro a _; rfl
  | cons p L ih =>
    intro a h
    obtain ⟨k, v⟩ := p
    simp only [get] at h
    split at h
    · cases h
    · rename_i hne
      simp only [del]
      rw [if_neg hne, ih h]

theorem del_at : ∀ {L : List (K × Value)} {a : K} {v : Value} {j : Nat}, (L.map Prod.fst).Nodup → L[j]? = some (a, v) → del L a = L.eraseIdx j := by
  intro L
  induction L with
  | nil => intro a v j _ h; simp at h
  | cons p L ih =>
    intro a v j hn h
    obtain ⟨k, u⟩ := p
    simp only [List.map_cons, List.nodup_cons] at hn
    cases j with
    | zero => simp at h; simp [del, h]
    | succ j =>
      simp only [List.getElem?_cons_succ] at h
      simp only [del]
      rw [if_neg (fun e => hn.1 (by rw [e]; exact List.mem_map.2 ⟨(a, v), List.mem_of_getElem? h, rfl⟩)), ih hn.2 h]; rfl

theorem zip_snoc {L : List (K × Value)} {bs : List Nat} (h : bs.length = L.length) (p : K × Value) (b : Nat) : entsOf enc (L ++ [p]) (bs ++ [b]) = entsOf enc L bs ++ [⟨enc p.1, p.2, b⟩] := by
  unfold entsOf
  rw [List.zipWith_append (by omega)]; rfl

theorem zip_set {L : List (K × Value)} {bs : List Nat} (h : bs.length = L.length) (j : Nat) (a : K) (v x : Value) (hj : L[j]? = some (a, v)) :
    ((entsOf enc L bs).toArray.modify j fun e => { e with key := enc a, val := x }) = (entsOf enc (L.set j (a, x)) bs).toArray := by
  apply Array.ext_getElem?
  intro i
  rw [Array.getElem?_modify]
  simp only [List.getElem?_toArray, entsOf_get h, entsOf_get (show bs.length = (L.set j (a, x)).length by simpa using h), List.getElem?_set]
  by_cases hij : j = i
  · subst hij
    have hlt : j < L.length := (List.getElem?_eq_some_iff.1 hj).1
    rw [if_pos rfl, if_pos rfl, if_pos hlt, hj]
    cases hb : bs[j]? <;> simp
  · rw [if_neg hij, if_neg hij]

theorem zip_erase {L : List (K × Value)} {bs : List Nat} (h : bs.length = L.length) (j : Nat) (hj : j < L.length) : (entsOf enc L bs).toArray.eraseIdxIfInBounds j = (entsOf enc (L.eraseIdx j) (bs.eraseIdx j)).toArray := by
  unfold Array.eraseIdxIfInBounds
  rw [dif_pos (by simpa [entsOf_len h] using hj)]
  simp only [List.eraseIdx_toArray]
  congr 1
  apply List.ext_getElem?
  intro i
  have hlt : j < bs.length := by omega
  rw [entsOf_get (by rw [List.length_eraseIdx_of_lt hlt, List.length_eraseIdx_of_lt hj, h])]
  simp only [List.getElem?_eraseIdx]
  split <;> rw [entsOf_get h]

theorem eraseIdx_nodup {α : Type} {l : List α} (h : l.Nodup) (j : Nat) : (l.eraseIdx j).Nodup := (List.eraseIdx_sublist l j).nodup h

/-- m[k] = v -/
theorem MapR.put {L : List (K × Value)} {bs : List Nat} {clock : Nat} {o : Obj} (KK : KeyK P kt enc dom) (R : MapR enc dom L bs clock o) {t et : TypeId} (ht : mapTy P t kt et = true) {a : K} (ha : dom a) (x : Value) (w : World) (m : Nat)
    (hb : w.heap[m]? = some o) : ∃ bs' clock' o', (Instr.mapUpdate t (.map (some m)) (enc a) x).run P w = .ok () { w with heap := w.heap.setIfInBounds m o' } ∧ MapR enc dom (Sv.put L a x) bs' clock' o' := by
  rw [R.obj] at hb
  obtain ⟨l, hl⟩ := KK.ok a ha
  have hc := KK.keyed.check w false hl
  rcases find_spec KK a ha L bs R.len R.keys R.apart w with ⟨h1, h2⟩ | ⟨j, v, h1, h2, h3⟩
  · refine ⟨bs ++ [clock], clock + 1, _, ?_, ⟨rfl, ?_, ?_, ?_, ?_, ?_⟩⟩
    · rw [put_len_none h2, zip_snoc R.len]
      simp [Instr.mapUpdate, run_underlying (mapTy.out ht), MapKept.run_getObj_map hb, hc, h1, MapKept.run_setObj_map _ hb, Result.andThen]
    · rw [put_len_none h2]; simp [R.len]
    · rw [List.nodup_append]
      refine ⟨R.nodup, by simp, fun b hb' c hc' => ?_⟩
      simp at hc'; subst hc'
      have := R.lt b hb'; omega
    · intro b hb'
      rcases List.mem_append.1 hb' with h | h
      · have := R.lt b h; omega
      · simp at h; omega
    · rw [put_len_none h2]
      intro p hp
      rcases List.mem_append.1 hp with h | h
      · exact R.keys p h
      · simp at h; subst h; exact ha
    · rw [put_len_none h2]
      simp only [List.map_append, List.map_cons, List.map_nil, List.nodup_append]
      refine ⟨R.apart, by simp, fun k hk c hc' => ?_⟩
      simp at hc'; subst hc'
      rintro rfl
      obtain ⟨p, hp, rfl⟩ := List.mem_map.1 hk
      have : ∀ (L : List (K × Value)), p ∈ L → get L p.1 ≠ none := by
        intro L
        induction L with
        | nil => intro h; cases h
        | cons q L ih =>
          intro h
          obtain ⟨k, v⟩ := q
          simp only [get]
          split
          · simp
          · rcases List.mem_cons.1 h with rfl | h
            · rename_i hne; exact absurd rfl hne
            · exact ih h
      exact this L hp h2
  · have hst := KK.keyed.stays w hl
    have hj : ((entsOf enc L bs).toArray[j]?).map (·.key) = some (enc a) := by
      rw [List.getElem?_toArray, entsOf_get R.len, h2]
      have hlt : j < L.length := (List.getElem?_eq_some_iff.1 h2).1
      have : bs[j]? = some (bs[j]'(by have := R.len; omega)) := by simp [R.len, hlt]
      rw [this]; rfl
    refine ⟨bs, clock, .map (entsOf enc (Sv.put L a x) bs).toArray clock, ?_, ⟨rfl, ?_, R.nodup, R.lt, ?_, ?_⟩⟩
    · rw [put_at R.apart h2, ← zip_set R.len j a v x h2]
      simp [Instr.mapUpdate, run_underlying (mapTy.out ht), MapKept.run_getObj_map hb, hc, h1, MapKept.run_setObj_map _ hb, Result.andThen, hj, hst]
      have : ((entsOf enc L bs)[j]?).map (·.key) = some (enc a) := by simpa using hj
      rw [this]
      simp [hst, MapKept.run_setObj_map _ hb]
    · rw [put_at R.apart h2]; simp [R.len]
    · rw [put_at R.apart h2]
      intro p hp
      rcases List.mem_or_eq_of_mem_set hp with h | h
      · exact R.keys p h
      · subst h; exact ha
    · rw [put_at R.apart h2]
      have : (L.set j (a, x)).map Prod.fst = L.map Prod.fst := by
        apply List.ext_getElem?
        intro i
        simp only [List.getElem?_map, List.getElem?_set]
        by_cases hij : j = i
        · subst hij
          have hlt : j < L.length := (List.getElem?_eq_some_iff.1 h2).1
          rw [if_pos rfl, if_pos hlt, h2]; rfl
        · rw [if_neg hij]
      rw [this]; exact R.apart

/-- delete(m, k) -/
theorem MapR.del {L : List (K × Value)} {bs : List Nat} {clock : Nat} {o : Obj} (KK : KeyK P kt enc dom) (R : MapR enc dom L bs clock o) {t et : TypeId} (ht : mapTy P t kt et = true) {a : K} (ha : dom a) (ty : TypeId) (w : World) (m : Nat)
    (hb : w.heap[m]? = some o) : ∃ bs' o', (Builtin.delete_ #[t, kt] ty #[.map (some m), enc a]).run P w = .ok (.tuple #[]) { w with heap := w.heap.setIfInBounds m o' } ∧ MapR enc dom (Sv.del L a) bs' clock o' ∧ bs'.Sublist bs ∧ (get L a = none → bs' = bs) ∧
      (∀ i : Nat, L[i]?.map Prod.fst = some a → bs' = bs.eraseIdx i) := by
  rw [R.obj] at hb
  obtain ⟨l, hl⟩ := KK.ok a ha
  have hc := fun em => KK.keyed.check w em hl
  rcases find_spec KK a ha L bs R.len R.keys R.apart w with ⟨h1, h2⟩ | ⟨j, v, h1, h2, h3⟩
  · refine ⟨bs, _, ?_, ⟨rfl, ?_, R.nodup, R.lt, ?_, ?_⟩, List.Sublist.refl _, fun _ => rfl, ?_⟩
    · rw [del_none h2]
      simp [Builtin.delete_, run_underlying (mapTy.out ht), MapKept.run_getObj_map hb, hc, h1, MapKept.run_setObj_map _ hb, Result.andThen]
    · rw [del_none h2]; exact R.len
    · rw [del_none h2]; exact R.keys
    · rw [del_none h2]; exact R.apart
    · intro i hi
      exfalso
      cases hL : L[i]? with
      | none => simp [hL] at hi
      | some p =>
        simp [hL] at hi
        have : get L p.1 ≠ none := by
          have hm := List.mem_of_getElem? hL
          clear hL hi h2 h1 hc hb R
          induction L with
          | nil => cases hm
          | cons q L ih =>
            obtain ⟨k, v⟩ := q
            simp only [get]
            split
            · simp
            · rcases List.mem_cons.1 hm with rfl | h
              · rename_i hne; exact absurd rfl hne
              · exact ih h
        rw [hi] at this
        exact this h2
  · have hlt : j < L.length := (List.getElem?_eq_some_iff.1 h2).1
    have hlt' : j < bs.length := by have := R.len; omega
    refine ⟨bs.eraseIdx j, .map (entsOf enc (Sv.del L a) (bs.eraseIdx j)).toArray clock, ?_, ⟨rfl, ?_, ?_, ?_, ?_, ?_⟩, List.eraseIdx_sublist _ _, (fun h => by rw [h3] at h; cases h), ?_⟩
    · rw [del_at R.apart h2, ← zip_erase R.len j hlt]
      simp [Builtin.delete_, run_underlying (mapTy.out ht), MapKept.run_getObj_map hb, hc, h1, MapKept.run_setObj_map _ hb, Result.andThen]
    · rw [del_at R.apart h2, List.length_eraseIdx_of_lt hlt, List.length_eraseIdx_of_lt hlt', R.len]
    · exact eraseIdx_nodup R.nodup j
    · exact fun b hb => R.lt b ((List.eraseIdx_sublist _ _).subset hb)
    · rw [del_at R.apart h2]
      exact fun p hp => R.keys p ((List.eraseIdx_sublist _ _).subset hp)
    · rw [del_at R.apart h2]
      have : (L.eraseIdx j).map Prod.fst = (L.map Prod.fst).eraseIdx j := by
        apply List.ext_getElem?
        intro i
        simp only [List.getElem?_map, List.getElem?_eraseIdx]
        split <;> simp
      rw [this]; exact eraseIdx_nodup R.apart j
    · intro i hi
      congr 1
      have hi' : (L.map Prod.fst)[i]? = some a := by simpa using hi
      have hj' : (L.map Prod.fst)[j]? = some a := by simp [h2]
      have hli : i < (L.map Prod.fst).length := (List.getElem?_eq_some_iff.1 hi').1
      exact ((List.getElem?_inj hli R.apart).1 (by rw [hi', hj'])).symm

theorem Ok.setObj {F : List Ent} {w0 w : World} {A B : HL} {m : Nat} {o : Obj} (hk : Ok F (A ++ .one m o :: B) w0 w) (o' : Obj) (w' : World) (hh : w'.heap = w.heap.setIfInBounds m o') (he : Ext w w') : Ok F (A ++ .one m o' :: B) w0 w' := by
  have hb : w.heap[m]? = some o := hk.get (by simp)
  have hs := MapKept.heap_set (o' := o') hb
  refine hk.of_heap rfl (fun i hi => by rw [hh]; exact hs.2 i hi) (by rw [hh]; exact hs.1) ⟨he.os.trans hk.ext.os, he.tape.trans hk.ext.tape, he.output.trans hk.ext.output⟩

theorem RawVC.mput {t et : TypeId} {H : HL} {k : Value → HL → Prop} {E : List PanicEntry → HL → Prop} {L : List (K × Value)} {bs : List Nat} {clock : Nat} {m : Nat} {o : Obj} {x : Value} (KK : KeyK P kt enc dom) (ht : mapTy P t kt et = true)
    (R : MapR enc dom L bs clock o) (i : Nat) (hm : nth H i = some (.one m o)) (a : K) (ha : dom a) (h : ∀ bs' clock' o', MapR enc dom (Sv.put L a x) bs' clock' o' → repK H i (.one m o') (k undef)) :
    RawVC P (do Instr.mapUpdate t (.map (some m)) (enc a) x; pure .skip) H k E := by
  refine ⟨fun F w0 w hk => .inl ?_⟩
  have hb := hk.get (mem_of_nth hm)
  obtain ⟨bs', clock', o', hr, R'⟩ := R.put KK ht ha x w m hb
  obtain ⟨A, B, rfl, kk⟩ := repK.out hm (h _ _ _ R')
  exact ⟨undef, _, { w with heap := w.heap.setIfInBounds m o' }, .inr ⟨by simp [hr, Result.andThen], rfl⟩, kk, hk.setObj o' _ rfl ⟨rfl, rfl, rfl⟩⟩

theorem MapR.del_zip {L : List (K × Value)} {a : K} {bs bs' : List Nat} (hn : (L.map Prod.fst).Nodup) (hl : bs.length = L.length) (h1 : get L a = none → bs' = bs) (h2 : ∀ i : Nat, L[i]?.map Prod.fst = some a → bs' = bs.eraseIdx i) :
    ∀ p b, (p, b) ∈ (Sv.del L a).zip bs' → (p, b) ∈ L.zip bs := by
  intro p b hp
  have key : ∀ (L : List (K × Value)), (get L a = none) ∨ ∃ (i : Nat) (v : Value), L[i]? = some (a, v) := by
    intro L
    induction L with
    | nil => exact .inl rfl
    | cons q L ih =>
      obtain ⟨k, v⟩ := q
      by_cases hk : k = a
      · exact .inr ⟨0, v, by simp [hk]⟩
      · rcases ih with h | ⟨i, u, h⟩
        · exact .inl (by simp [get, hk, h])
        · exact .inr ⟨i + 1, u, by simpa using h⟩
  rcases key L with h | ⟨i, v, h⟩
  · rw [h1 h, del_none h] at hp; exact hp
  · rw [h2 i (by simp [h]), del_at hn h] at hp
    have hs : ∀ (L : List (K × Value)) (bs : List Nat) (i : Nat), (p, b) ∈ (L.eraseIdx i).zip (bs.eraseIdx i) → (p, b) ∈ L.zip bs := by
      intro L
      induction L with
      | nil => intro bs i h; simp at h
      | cons q L ih =>
        intro bs i h
        cases bs with
        | nil => cases i <;> simp at h
        | cons c bs =>
          cases i with
          | zero => simp only [List.eraseIdx_cons_zero] at h; simp [h]
          | succ i =>
            simp only [List.eraseIdx_cons_succ, List.zip_cons_cons, List.mem_cons] at h
            simp only [List.zip_cons_cons, List.mem_cons]
            exact h.imp id (ih bs i)
    exact hs L bs i hp

theorem RawVC.mdel {t et ty : TypeId} {H : HL} {k : Value → HL → Prop} {E : List PanicEntry → HL → Prop} {L : List (K × Value)} {bs : List Nat} {clock : Nat} {m : Nat} {o : Obj} {cs : Array Bool} (KK : KeyK P kt enc dom) (ht : mapTy P t kt et = true)
    (R : MapR enc dom L bs clock o) (i : Nat) (hm : nth H i = some (.one m o)) (a : K) (ha : dom a)
    (h : ∀ bs' o', MapR enc dom (Sv.del L a) bs' clock o' → bs'.Sublist bs → (∀ p b, (p, b) ∈ (Sv.del L a).zip bs' → (p, b) ∈ L.zip bs) → repK H i (.one m o') (k (.tuple #[]))) :
    RawVC P (builtin .delete #[t, kt] ty cs #[.map (some m), enc a]) H k E := by
  refine ⟨fun F w0 w hk => .inl ?_⟩
  have hb := hk.get (mem_of_nth hm)
  obtain ⟨bs', o', hr, R', hs, h0, h2⟩ := R.del KK ht ha ty w m hb
  obtain ⟨A, B, rfl, kk⟩ := repK.out hm (h _ _ R' hs (MapR.del_zip R.apart R.len h0 h2))
  exact ⟨.tuple #[], _, { w with heap := w.heap.setIfInBounds m o' }, .inl (by simp [builtin, hr, Result.andThen]), kk, hk.setObj o' _ rfl ⟨rfl, rfl, rfl⟩⟩

theorem RawVC.mclear {t et ty : TypeId} {H : HL} {k : Value → HL → Prop} {E : List PanicEntry → HL → Prop} {L : List (K × Value)} {bs : List Nat} {clock : Nat} {m : Nat} {o : Obj} {cs : Array Bool} (ht : mapTy P t kt et = true)
    (R : MapR enc dom L bs clock o) (i : Nat) (hm : nth H i = some (.one m o)) (h : ∀ o', MapR enc dom [] [] clock o' → repK H i (.one m o') (k (.tuple #[]))) :
    RawVC P (builtin .clear #[t] ty cs #[.map (some m)]) H k E := by
  refine ⟨fun F w0 w hk => .inl ?_⟩
  have hb := hk.get (mem_of_nth hm)
  rw [R.obj] at hb
  have R' : MapR enc dom ([] : List (K × Value)) [] clock (.map #[] clock) := ⟨rfl, rfl, List.nodup_nil, by simp, by simp, by simp⟩
  obtain ⟨A, B, rfl, kk⟩ := repK.out hm (h _ R')
  exact ⟨.tuple #[], _, { w with heap := w.heap.setIfInBounds m (.map #[] clock) }, .inl (by simp [builtin, Builtin.clear_, run_underlying (mapTy.out ht), MapKept.run_getObj_map hb, MapKept.run_setObj_map _ hb, Result.andThen]), kk, hk.setObj (.map #[] clock) _ rfl ⟨rfl, rfl, rfl⟩⟩

/-- A map that goes round: which keys came out; which came out last. -/
structure IterR (L : List (K × Value)) (bs : List Nat) (clock m : Nat) (S : List K) (cur : Option (K × Value)) (o : Obj) : Prop where
  ex : ∃ since last seen, o = .mapIter (some m) since seen last ∧ (∀ b ∈ bs, b < since) ∧ (since ≤ last ∧ since ≤ clock) ∧ (∀ p b, (p, b) ∈ L.zip bs → (b ∈ seen ↔ p.1 ∈ S)) ∧
    ∀ p, cur = some p → last = clock ∧ ∃ b, (p, b) ∈ L.zip bs ∧ seen.back? = some b

theorem IterR.forget {L : List (K × Value)} {bs : List Nat} {clock m : Nat} {S : List K} {cur : Option (K × Value)} {o : Obj} (h : IterR L bs clock m S cur o) : IterR L bs clock m S none o := by
  obtain ⟨since, last, seen, h1, h2, h3, h4, _⟩ := h.ex
  exact ⟨since, last, seen, h1, h2, h3, h4, fun p h => nomatch h⟩

theorem IterR.sub {L L' : List (K × Value)} {bs bs' : List Nat} {clock m : Nat} {S : List K} {cur : Option (K × Value)} {o : Obj} (h : IterR L bs clock m S cur o) (hs : bs'.Sublist bs) (hz : ∀ p b, (p, b) ∈ L'.zip bs' → (p, b) ∈ L.zip bs) : IterR L' bs' clock m S none o := by
  obtain ⟨since, last, seen, h1, h2, h3, h4, _⟩ := h.ex
  exact ⟨since, last, seen, h1, fun b hb => h2 b (hs.subset hb), h3, fun p b hp => h4 p b (hz p b hp), fun p h => nomatch h⟩

theorem RawVC.rng {t et : TypeId} {H : HL} {k : Value → HL → Prop} {E : List PanicEntry → HL → Prop} {L : List (K × Value)} {bs : List Nat} {clock : Nat} {m : Nat} {o : Obj} (ht : mapTy P t kt et = true)
    (R : MapR enc dom L bs clock o) (i : Nat) (hm : nth H i = some (.one m o)) (h : ∀ r o', IterR L bs clock m [] none o' → k (.pointer (some ⟨r, 0, none⟩)) (.one r o' :: H)) :
    RawVC P (do pure (.value (← Instr.range t (.map (some m))))) H k E := by
  refine ⟨fun F w0 w hk => .inl ?_⟩
  have hb := hk.get (mem_of_nth hm)
  rw [R.obj] at hb
  have hr := run_range_map (P := P) w t kt et m _ clock (mapTy.out ht) hb
  refine ⟨_, _, _, .inl (by simp [hr, Result.andThen]), h w.heap.size _ ⟨clock, clock, #[], rfl, R.lt, ⟨Nat.le_refl _, Nat.le_refl _⟩, fun p b _ => by simp, fun p h => nomatch h⟩, hk.alloc _⟩

theorem run_next2 (w : World) (ty : TypeId) (r bm since c0 : Nat) (seen : Array Nat) (es : Array MapEntry) (clock : Nat) (hr : w.heap[r]? = some (.mapIter (some bm) since seen c0)) (hb : w.heap[bm]? = some (.map es clock))
    (hold : ∀ x ∈ es.toList, x.born < since) (hsc : since ≤ c0) :
    ((leftOf es seen).size = 0 ∧ (Instr.next (.pointer (some ⟨r, 0, none⟩)) false ty).run P w = .ok (.tuple #[.bool false]) w) ∨
    ∃ e ∈ (leftOf es seen).toList, ∃ w1 : World, w1.heap = w.heap.setIfInBounds r (.mapIter (some bm) since (seen.push e.born) clock) ∧ Ext w w1 ∧ (Instr.next (.pointer (some ⟨r, 0, none⟩)) false ty).run P w = .ok (.tuple #[.bool true, e.key, e.val]) w1 := by
  simp only [Instr.next, getObj, Sem.run_bind, Sem.run, hr, hb, Result.andThen, next_test_false seen es since c0 hold hsc, Bool.false_eq_true, if_false]
  unfold leftOf
  have hmem : ∀ x ∈ (Array.filter (fun e => !seen.contains e.born) es).toList, x.born < since := fun x hx => hold x (by simp at hx ⊢; exact hx.1)
  generalize Array.filter (fun e => !seen.contains e.born) es = L at hmem ⊢
  have e1 : L.filter (fun x => decide (x.born < since)) = L := Array.filter_eq_self.2 (fun x hx => by simpa using hmem x (by simpa using hx))
  have e2 : L.filter (fun x => decide (x.born ≥ since)) = #[] := by
    rw [Array.filter_eq_empty_iff]
    intro x hx
    have := hmem x (by simpa using hx)
    simp
    omega
  simp only [e1, e2, Array.append_empty]
  by_cases h0 : L.size = 0
  · left
    have : L = #[] := Array.eq_empty_of_size_eq_zero h0
    subst this
    refine ⟨rfl, ?_⟩
    simp [choose, Sem.run, Question.forced]
  · right
    have hne : L.isEmpty = false := by simp [Array.isEmpty, h0]
    simp only [hne, Bool.false_eq_true, if_false, Array.empty_append, Array.size_map]
    have hch : ∃ (j : Nat) (w1 : World), j < L.size ∧ w1.heap = w.heap ∧ Ext w w1 ∧ (choose (Question.mapNext L.size)).run P w = .ok j w1 := by
      by_cases hf : L.size ≤ 1
      · exact ⟨0, w, by omega, rfl, Ext.refl w, by simp [choose, Sem.run, Question.forced, hf]⟩
      · exact ⟨_, w.drew, Nat.mod_lt _ (by omega), rfl, ⟨rfl, rfl, rfl⟩, by
          simp only [choose, Sem.run, Question.forced, decide_eq_true_eq, hf, if_false, Question.cut]
          rfl⟩
    obtain ⟨j, w1, hj, hh, hx, hrun⟩ := hch
    refine ⟨L[j], by simp, { w1 with heap := w1.heap.setIfInBounds r (.mapIter (some bm) since (seen.push L[j].born) clock) }, by simp [hh], ⟨hx.os, hx.tape, hx.output⟩, ?_⟩
    have hr1 : w1.heap[r]? = some (.mapIter (some bm) since seen c0) := by rw [hh]; exact hr
    simp only [hrun, Array.getElem?_map, Array.getElem?_eq_getElem hj, Option.map_some, Sem.run_bind, Result.andThen]
    simp [setObj, Sem.run, hr1]

theorem mem_zip_of {L : List (K × Value)} {bs : List Nat} (h : bs.length = L.length) {e : MapEntry} (he : e ∈ entsOf enc L bs) : ∃ p b, (p, b) ∈ L.zip bs ∧ e = ⟨enc p.1, p.2, b⟩ := by
  rw [List.mem_iff_getElem?] at he
  obtain ⟨i, hi⟩ := he
  rw [entsOf_get h] at hi
  cases hL : L[i]? with
  | none => simp [hL] at hi
  | some p =>
    cases hb : bs[i]? with
    | none => simp [hL, hb] at hi
    | some b =>
      simp [hL, hb] at hi
      exact ⟨p, b, List.mem_of_getElem? (i := i) (by simp [List.getElem?_zip_eq_some, hL, hb]), hi.symm⟩

theorem zip_mem {L : List (K × Value)} {bs : List Nat} {p : K × Value} {b : Nat} (h : (p, b) ∈ L.zip bs) : (⟨enc p.1, p.2, b⟩ : MapEntry) ∈ entsOf enc L bs := by
  rw [List.mem_iff_getElem?] at h
  obtain ⟨i, hi⟩ := h
  rw [List.getElem?_zip_eq_some] at hi
  refine List.mem_of_getElem? (i := i) ?_
  simp [entsOf, List.getElem?_zipWith, hi.1, hi.2]

theorem zip_key_inj {L : List (K × Value)} {bs : List Nat} (hn : bs.Nodup) {p q : K × Value} {b : Nat} (h : (p, b) ∈ L.zip bs) (h' : (q, b) ∈ L.zip bs) : p = q := by
  rw [List.mem_iff_getElem?] at h h'
  obtain ⟨i, hi⟩ := h
  obtain ⟨j, hj⟩ := h'
  rw [List.getElem?_zip_eq_some] at hi hj
  have hl : i < bs.length := (List.getElem?_eq_some_iff.1 hi.2).1
  have : i = j := (List.getElem?_inj hl hn).1 (by rw [hi.2, hj.2])
  subst this
  rw [hi.1] at hj
  exact Option.some.inj hj.1

theorem zip_born_inj {L : List (K × Value)} {bs : List Nat} (hn : (L.map Prod.fst).Nodup) {p q : K × Value} {b c : Nat} (h : (p, b) ∈ L.zip bs) (h' : (q, c) ∈ L.zip bs) (e : p.1 = q.1) : b = c := by
  rw [List.mem_iff_getElem?] at h h'
  obtain ⟨i, hi⟩ := h
  obtain ⟨j, hj⟩ := h'
  rw [List.getElem?_zip_eq_some] at hi hj
  have h1 : (L.map Prod.fst)[i]? = some p.1 := by simp [hi.1]
  have h2 : (L.map Prod.fst)[j]? = some q.1 := by simp [hj.1]
  have hl : i < (L.map Prod.fst).length := (List.getElem?_eq_some_iff.1 h1).1
  have : i = j := (List.getElem?_inj hl hn).1 (by rw [h1, h2, e])
  subst this
  rw [hi.2] at hj
  exact Option.some.inj hj.2

/-- next, of a map: all came out, or one that did not comes. -/
theorem RawVC.nxt {ty : TypeId} {H : HL} {k : Value → HL → Prop} {E : List PanicEntry → HL → Prop} {L : List (K × Value)} {bs : List Nat} {clock m r : Nat} {S : List K} {cur : Option (K × Value)} {o it : Obj}
    (R : MapR enc dom L bs clock o) (I : IterR L bs clock m S cur it) (i : Nat) (hi : nth H i = some (.one r it)) (j : Nat) (hj : nth H j = some (.one m o))
    (h0 : (∀ p ∈ L, p.1 ∈ S) → k (.tuple #[.bool false]) H)
    (h1 : ∀ p, p ∈ L → p.1 ∉ S → ∀ it', IterR L bs clock m (p.1 :: S) (some p) it' → repK H i (.one r it') (k (.tuple #[.bool true, enc p.1, p.2]))) :
    RawVC P (do pure (.value (← Instr.next (.pointer (some ⟨r, 0, none⟩)) false ty))) H k E := by
  refine ⟨fun F w0 w hk => .inl ?_⟩
  have hb := hk.get (mem_of_nth hj)
  have hit := hk.get (mem_of_nth hi)
  obtain ⟨since, last, seen, rfl, h2, h3, h4, _⟩ := I.ex
  have hb' := hb
  rw [R.obj] at hb'
  have hold : ∀ x ∈ (entsOf enc L bs).toArray.toList, x.born < since := by
    intro x hx
    obtain ⟨p, _, b, hb, rfl⟩ := mem_entsOf (by simpa using hx)
    exact h2 b hb
  rcases run_next2 (P := P) w ty r m since last seen _ clock hit hb' hold h3.1 with ⟨hs, hr⟩ | ⟨e, he, w1, hw, hx, hr⟩
  · refine ⟨_, H, w, .inl (by simp [hr, Result.andThen]), h0 fun p hp => ?_, hk⟩
    obtain ⟨n, hn⟩ := List.mem_iff_getElem?.1 hp
    have hlt : n < L.length := (List.getElem?_eq_some_iff.1 hn).1
    have hb2 : bs[n]? = some (bs[n]'(by have := R.len; omega)) := by simp [R.len, hlt]
    have hz : (p, bs[n]'(by have := R.len; omega)) ∈ L.zip bs := List.mem_of_getElem? (i := n) (by rw [List.getElem?_zip_eq_some]; exact ⟨hn, hb2⟩)
    have hall := all_seen _ _ hs _ (by simpa using zip_mem (enc := enc) hz)
    exact (h4 _ _ hz).1 (by simpa using hall)
  · obtain ⟨he1, he2⟩ := mem_left he
    obtain ⟨p, b, hz, rfl⟩ := mem_zip_of R.len (by simpa using he1)
    have hpL : p ∈ L := (List.of_mem_zip hz).1
    have hns : p.1 ∉ S := fun hS => by
      have := (h4 p b hz).2 hS
      simp at he2
      exact he2 this
    have I' : IterR L bs clock m (p.1 :: S) (some p) (.mapIter (some m) since (seen.push b) clock) := by
      refine ⟨since, clock, _, rfl, h2, ⟨h3.2, h3.2⟩, fun q c hq => ?_, fun q hq => ?_⟩
      · simp only [Array.mem_push, List.mem_cons, h4 q c hq]
        constructor
        · rintro (h | rfl)
          · exact .inr h
          · exact .inl (by rw [zip_key_inj R.nodup hq hz])
        · rintro (h | h)
          · exact .inr (zip_born_inj R.apart hq hz h)
          · exact .inl h
      · cases hq
        exact ⟨rfl, b, hz, by simp⟩
    obtain ⟨A, B, rfl, kk⟩ := repK.out hi (h1 p hpL hns _ I')
    exact ⟨_, _, _, .inl (by simp [hr, Result.andThen]), kk, hk.setObj _ _ hw hx⟩

/-- The key and the value that came out last, read anew. -/
theorem RawRd.entry {H : HL} {k : Value → Prop} {L : List (K × Value)} {bs : List Nat} {clock m r : Nat} {S : List K} {p : K × Value} {o it : Obj}
    (R : MapR enc dom L bs clock o) (I : IterR L bs clock m S (some p) it) (i : Nat) (hi : nth H i = some (.one r it)) (j : Nat) (hj : nth H j = some (.one m o)) (h : k (.tuple #[enc p.1, p.2])) :
    RawRd P (Instr.entry (.pointer (some ⟨r, 0, none⟩))) H k := by
  refine ⟨_, fun F w0 w hk => ?_, h⟩
  have hb := hk.get (mem_of_nth hj)
  have hit := hk.get (mem_of_nth hi)
  obtain ⟨since, last, seen, rfl, h2, h3, h4, h5⟩ := I.ex
  obtain ⟨rfl, b, hz, hback⟩ := h5 p rfl
  rw [R.obj] at hb
  have hmem := zip_mem (enc := enc) hz
  have hnd : ((entsOf enc L bs).map (·.born)).Nodup := by
    have : (entsOf enc L bs).map (·.born) = bs := by
      apply List.ext_getElem?
      intro n
      rw [List.getElem?_map, entsOf_get R.len]
      cases hL : L[n]? with
      | none =>
        have : bs[n]? = none := by rw [List.getElem?_eq_none_iff] at hL ⊢; have := R.len; omega
        simp [this]
      | some q => cases hb : bs[n]? <;> simp
    rw [this]; exact R.nodup
  have hf : (entsOf enc L bs).toArray.find? (·.born == b) = some ⟨enc p.1, p.2, b⟩ := by
    rw [← Array.find?_toList]; exact find_born ⟨enc p.1, p.2, b⟩ _ hnd hmem
  simp only [Instr.entry, getObj, Sem.run_bind, Sem.run, hit, hb, Result.andThen, hback, bne_self_eq_false, Bool.false_eq_true, if_false, hf]
  rfl
end
end Go.Sv
