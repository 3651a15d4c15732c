/- Operations that read memory, make memory, write memory, call. -/
import Derived.Test.YtccofnngpijihaaGreatVc2
set_option linter.all false
namespace Go.Sv

/-- One cell, read. -/
inductive Load1 (H : HL) (b off : Nat) (K : Value → Prop) : Prop
  | mk (arr : Array Value) (T : TypeId) (m : Nat × Nat) (v : Value) (hm : Chunk.one b (.cells arr T m) ∈ H) (hv : arr[off]? = some v) (k : K v)

/-- Some cells, read. -/
inductive LoadN (H : HL) (b off n : Nat) (K : Value → Prop) : Prop
  | mk (arr : Array Value) (T : TypeId) (m : Nat × Nat) (vs : List Value) (hm : Chunk.one b (.cells arr T m) ∈ H) (hv : vs = (arr.toList.drop off).take n) (hl : vs.length = n) (k : K (.agg vs.toArray))

theorem mem_of_nth {α : Type} {l : List α} {i : Nat} {x : α} (h : nth l i = some x) : x ∈ l := by
  rw [nth_eq] at h; exact List.mem_of_getElem? h

theorem Load1.at {H : HL} {b off : Nat} {K : Value → Prop} (i : Nat) {arr : Array Value} {T : TypeId} {m : Nat × Nat} {v : Value} (h : nth H i = some (.one b (.cells arr T m)))
    (hv : nth arr.toList off = some v) (k : K v) : Load1 H b off K :=
  ⟨arr, T, m, v, mem_of_nth h, by rw [nth_eq] at hv; simpa using hv, k⟩

theorem LoadN.at {H : HL} {b off n : Nat} {K : Value → Prop} (i : Nat) {arr : Array Value} {T : TypeId} {m : Nat × Nat} {vs : List Value} (h : nth H i = some (.one b (.cells arr T m)))
    (hv : cutL off n arr.toList = some vs) (k : frc vs fun vs => K (.agg vs.toArray)) : LoadN H b off n K :=
  ⟨arr, T, m, vs, mem_of_nth h, (cutL_eq _ _ _ _ hv).1, (cutL_eq _ _ _ _ hv).2, by rw [frc_eq] at k; exact k⟩

/-- What an operation of the model reads, however. -/
inductive RawRd (P : Program) (s : Sem Value) (H : HL) (K : Value → Prop) : Prop
  | mk (v : Value) (h : ∀ F w0 w, Ok F H w0 w → s.run P w = .ok v w) (k : K v)

inductive RE where
  | ld1 (x : Operand)
  | ldn (x : Operand) (n : Nat)
  | lk (t : TypeId) (x k : Operand) (ok : Bool)
  | lenm (t : TypeId) (x : Operand)
  | eqp (t : TypeId) (neg : Bool) (x y : Operand)
  | conv (s d : TypeId) (x : Operand)
  | entry (x : Operand)
  | tass (x : Operand) (xt t : TypeId) (ok : Bool)

def reVC (P : Program) (ρ : Env) (H : HL) (e : RE) (K : Value → Prop) : Prop :=
  match e with
  | .ld1 x => evK ρ x fun v => onPtr v fun b o => Load1 H b o K
  | .ldn x n => evK ρ x fun v => onPtr v fun b o => LoadN H b o n K
  | .lk t x k ok => evK ρ x fun u => evK ρ k fun v => RawRd P (Instr.lookup t u v ok) H K
  | .lenm t x => evK ρ x fun u => RawRd P (Builtin.len_ #[t] 0 #[u]) H K
  | .eqp t neg x y => evK ρ x fun u => evK ρ y fun v => RawRd P (do eqGuard (if neg then .neq else .eql) t x y u v; binOp (if neg then .neq else .eql) t u v) H K
  | .conv s d x => evK ρ x fun u => RawRd P (convert s d u) H K
  | .entry x => evK ρ x fun u => RawRd P (Instr.entry u) H K
  | .tass x xt t ok => evK ρ x fun u => RawRd P (Instr.typeAssert u xt t ok) H K

def compR (P : Program) (op : Op) : Option RE :=
  match op with
  | .load t x => match aggOf P t with
    | some false => some (.ld1 x)
    | some true => optOf (szOf P t) fun n => lit n fun n => some (.ldn x n)
    | none => none
  | .lookup t x k ok => some (.lk t x k ok)
  | .call { callee := .builtin .len, args := ⟨[x]⟩, argTypes := ⟨[t]⟩ } => some (.lenm t x)
  | .binOp .eql t x y _ => some (.eqp t false x y)
  | .binOp .neq t x y _ => some (.eqp t true x y)
  | .convert s d x => match P.underlying s, P.underlying d with
    | some (.slice _), some .string => some (.conv s d x)
    | _, _ => none
  | .entry x => some (.entry x)
  | .typeAssert x xt t ok => some (.tass x xt t ok)
  | _ => none

/-- What a reading gives, in whatever world that holds these pieces. -/
def Reads (P : Program) (ρ : Env) (H : HL) (o : Oper) (K : Value → Prop) : Prop :=
  ∃ v, K v ∧ ∀ a, Holds ρ a → ∀ F w0 w, Ok F H w0 w → (execOp a.eval o).run P w = .ok (.value v) w

theorem cell_of_block {w : World} {b off : Nat} {arr : Array Value} {T : TypeId} {m : Nat × Nat} (h : w.heap[b]? = some (.cells arr T m)) : w.cell? ⟨b, off, none⟩ = arr[off]? := by
  simp [World.cell?, h]

theorem loadCellsFrom_run {P : Program} {w : World} {b off : Nat} {arr : Array Value} {T : TypeId} {m : Nat × Nat} (h : w.heap[b]? = some (.cells arr T m)) :
    ∀ (vs : List Value) (i : Nat) (acc : Array Value), (∀ j, j < vs.length → arr[off + i + j]? = vs[j]?) →
      (loadCellsFrom ⟨b, off, none⟩ i vs.length acc).run P w = .ok (acc ++ vs.toArray) w := by
  intro vs
  induction vs with
  | nil => intro i acc _; simp [loadCellsFrom]
  | cons v vs ih =>
    intro i acc hv
    have h0 : arr[off + i]? = some v := by simpa using hv 0 (by simp)
    have h1 := ih (i + 1) (acc.push v) (fun j hj => by
      have := hv (j + 1) (by simpa using hj)
      rw [show off + (i + 1) + j = off + i + (j + 1) from by omega, this]; simp)
    simp only [List.length_cons, loadCellsFrom, load, Sem.run_bind, Sem.run, Addr.add_lit, cell_of_block h, h0, Result.andThen, h1]
    simp

theorem re_sound {P : Program} {o : Oper} {e : RE} (hc : compR P o.op = some e) {ρ : Env} {H : HL} {K : Value → Prop} (h : reVC P ρ H e K) : Reads P ρ H o K := by
  obtain ⟨dst, op, ty, pos, after, g⟩ := o
  simp only at hc
  unfold compR at hc
  simp only [lit_eq] at hc
  split at hc
  · split at hc
    · rename_i hag
      cases hc
      obtain ⟨u, hu, h⟩ := evK.out h
      obtain ⟨b, off, rfl, h'⟩ := onPtr.out h
      obtain ⟨arr, T, m, v, hm, hv, k⟩ := h'
      refine ⟨v, k, fun a hH F w0 w hok => ?_⟩
      have hb := hok.get hm
      simp only [execOp, hH.eval hu]
      simp [Instr.loadAt, Instr.sureAddr, loadVar, aggOf_run hag, load, Sem.run, cell_of_block hb, hv]
    · rename_i hag
      obtain ⟨n, hn, hc⟩ := optOf_some hc
      cases hc
      obtain ⟨u, hu, h⟩ := evK.out h
      obtain ⟨b, off, rfl, h'⟩ := onPtr.out h
      obtain ⟨arr, T, m, vs, hm, hv, hl, k⟩ := h'
      refine ⟨_, k, fun a hH F w0 w hok => ?_⟩
      have hb := hok.get hm
      have hr := loadCellsFrom_run (P := P) (off := off) hb vs 0 #[] (fun j hj => by
        rw [hv, List.getElem?_take, if_pos (by omega)]
        simp)
      simp only [execOp, hH.eval hu]
      simp only [hl] at hr
      simp [Instr.loadAt, Instr.sureAddr, loadVar, aggOf_run hag, szOf_run hn, loadCells, hr]
    · cases hc
  · cases hc
    obtain ⟨u, hu, h⟩ := evK.out h
    obtain ⟨v, hv, h⟩ := evK.out h
    obtain ⟨r, hr, k⟩ := h
    exact ⟨r, k, fun a hH F w0 w hok => by simp only [execOp, hH.eval hu, hH.eval hv]; simp [hr F w0 w hok]⟩
  · cases hc
    obtain ⟨u, hu, h⟩ := evK.out h
    obtain ⟨r, hr, k⟩ := h
    exact ⟨r, k, fun a hH F w0 w hok => by
      have := hr F w0 w hok
      simp [execOp, resolve, invoke, builtin, hH.eval hu]
      simpa [Builtin.len_] using congrArg (fun r => r.andThen fun a w' => Result.ok (Next.value a) w') this⟩
  · cases hc
    obtain ⟨u, hu, h⟩ := evK.out h
    obtain ⟨v, hv, h⟩ := evK.out h
    obtain ⟨r, hr, k⟩ := h
    exact ⟨r, k, fun a hH F w0 w hok => by
      have := hr F w0 w hok
      simp only [execOp, hH.eval hu, hH.eval hv]
      simp only [Sem.run_bind, Bool.false_eq_true, if_false] at this ⊢
      rw [this]; rfl⟩
  · cases hc
    obtain ⟨u, hu, h⟩ := evK.out h
    obtain ⟨v, hv, h⟩ := evK.out h
    obtain ⟨r, hr, k⟩ := h
    exact ⟨r, k, fun a hH F w0 w hok => by
      have := hr F w0 w hok
      simp only [execOp, hH.eval hu, hH.eval hv]
      simp only [Sem.run_bind, if_true] at this ⊢
      rw [this]; rfl⟩
  · split at hc
    · cases hc
      obtain ⟨u, hu, h⟩ := evK.out h
      obtain ⟨r, hr, k⟩ := h
      exact ⟨r, k, fun a hH F w0 w hok => by simp only [execOp, hH.eval hu]; simp [hr F w0 w hok]⟩
    · cases hc
  · cases hc
    obtain ⟨u, hu, h⟩ := evK.out h
    obtain ⟨r, hr, k⟩ := h
    exact ⟨r, k, fun a hH F w0 w hok => by simp only [execOp, hH.eval hu]; simp [hr F w0 w hok]⟩
  · cases hc
    obtain ⟨u, hu, h⟩ := evK.out h
    obtain ⟨r, hr, k⟩ := h
    exact ⟨r, k, fun a hH F w0 w hok => by simp only [execOp, hH.eval hu]; simp [hr F w0 w hok]⟩
  · cases hc

/-! Making memory. -/
inductive AE where
  | al (t : TypeId) (cells : List Value)
  | bx (t : TypeId) (x : Operand)
  | bs (elem : TypeId) (len : Nat) (cells : List Value) (parts : List (Nat × Nat × Operand))
  | mkm
  | mks (elem : TypeId) (bytes : Nat) (zero : List Value) (len cap : Operand)

/-- n times the same cells. -/
def repL (z : List Value) : Nat → List Value
  | 0 => []
  | n + 1 => z ++ repL z n

/-- How a making's value names the new block. -/
inductive MkV where
  | ptr
  | sl (l c : Nat)
  | map

def MkV.val : MkV → Nat → Value
  | .ptr, b => .pointer (some ⟨b, 0, none⟩)
  | .sl l c, b => .slice (some ⟨b, 0, none⟩) l c
  | .map, b => .map (some b)

def mkK (m : MkV) (b : Nat) (K : Value → Prop) : Prop :=
  match m with
  | .ptr => K (.pointer (some ⟨b, 0, none⟩))
  | .sl l c => K (.slice (some ⟨b, 0, none⟩) l c)
  | .map => K (.map (some b))

theorem mkK_eq (m : MkV) (b : Nat) (K : Value → Prop) : mkK m b K = K (m.val b) := by cases m <;> rfl

def aeVC (ρ : Env) (e : AE) (K : MkV → Obj → Prop) : Prop :=
  match e with
  | .al t cells => K .ptr (.cells cells.toArray t)
  | .bx t x => evK ρ x fun v => frc v.cells.toList fun cs => K .ptr (.cells cs.toArray t)
  | .bs t len cells parts => bldK ρ parts cells fun cs => K (.sl len len) (.cells cs.toArray t)
  | .mkm => K .map (.map #[] 0)
  | .mks t bytes zero len cap => evK ρ len fun u => onInt u fun _ l => evK ρ cap fun v => onInt v fun _ c =>
      Sure (0 ≤ l ∧ l ≤ c ∧ c * bytes ≤ 140737488355328 ∧ c ≤ 9223372036854775807) (K (.sl l.toNat c.toNat) (.cells (repL zero c.toNat).toArray t))

def compA (P : Program) (op : Op) : Option AE :=
  match op with
  | .alloc t => optOf (P.info? t) fun i => optOf i.zero fun z => some (.al t z.cells.toList)
  | .box t x => some (.bx t x)
  | .buildSlice t len parts => match P.underlying t with
    | some (.slice e) => optOf (P.info? e) fun i => optOf i.zero fun z =>
      match decide (len * i.size ≤ 2 ^ 24), Nat.beq z.cells.size i.size with
      | true, true => some (.bs e len (repL z.cells.toList len) (parts.toList.map fun (j, x) => (j * i.size, i.size, x)))
      | _, _ => none
    | _ => none
  | .makeMap _ none => some .mkm
  | .makeSlice t l c => match P.underlying t with
    | some (.slice e) => optOf (P.info? e) fun i => optOf i.zero fun z =>
      match Nat.beq z.cells.size i.size with
      | true => lit i.bytes fun bs => some (.mks e bs z.cells.toList l c)
      | false => none
    | _ => none
  | _ => none

/-- What a making gives: a value that names the new block, and the block. -/
def Makes (P : Program) (ρ : Env) (o : Oper) (K : MkV → Obj → Prop) : Prop :=
  ∃ (mk : MkV) (obj : Obj), K mk obj ∧ ∀ a, Holds ρ a → ∀ w, (execOp a.eval o).run P w = .ok (.value (mk.val w.heap.size)) (w.alloc obj)

theorem repL_length (z : List Value) (n : Nat) : (repL z n).length = n * z.length := by
  induction n with
  | zero => simp [repL]
  | succ n ih => simp [repL, ih, Nat.succ_mul]; omega

theorem repL_get (z : List Value) : ∀ (n i : Nat), i < n * z.length → (repL z n)[i]? = z[i % z.length]? := by
  intro n
  induction n with
  | zero => intro i h; simp at h
  | succ n ih =>
    intro i h
    simp only [repL]
    by_cases hi : i < z.length
    · rw [List.getElem?_append_left hi, Nat.mod_eq_of_lt hi]
    · have h' : i - z.length < n * z.length := by
        rw [Nat.add_mul, Nat.one_mul] at h
        omega
      rw [List.getElem?_append_right (by omega), ih (i - z.length) h', ← Nat.mod_eq_sub_mod (by omega)]

theorem row_eq (z : Array Value) (n : Nat) : (Array.range (n * z.size)).map (fun i => z[i % z.size]!) = (repL z.toList n).toArray := by
  apply Array.ext_getElem?
  intro i
  by_cases hi : i < n * z.size
  · have hz : 0 < z.size := by
      rcases Nat.eq_zero_or_pos z.size with h | h
      · rw [h] at hi; simp at hi
      · exact h
    have hm : i % z.size < z.size := Nat.mod_lt _ hz
    have := repL_get z.toList n i (by simpa using hi)
    simp only [List.getElem?_toArray, this]
    simp [hi, hm]
  · rw [Array.getElem?_eq_none (by simp; omega)]
    rw [List.getElem?_toArray, List.getElem?_eq_none (by rw [repL_length]; simp; omega)]

theorem make_bs {P : Program} {ρ : Env} {K : MkV → Obj → Prop} {dst : Option Tmp} {ty : TypeId} {pos : String} {after : Array Edge} {g : Option (Nat × Bool)}
    {t e : TypeId} {len : Nat} {parts : Array (Nat × Operand)} {i : TypeInfo} {z : Value} (he : P.underlying t = some (.slice e)) (hi : P.info? e = some i)
    (hz : i.zero = some z) (h1 : len * i.size ≤ 2 ^ 24) (h2 : z.cells.size = i.size)
    (h : aeVC ρ (.bs e len (repL z.cells.toList len) (parts.toList.map fun (j, x) => (j * i.size, i.size, x))) K) : Makes P ρ ⟨dst, .buildSlice t len parts, ty, pos, after, g⟩ K := by
  obtain ⟨r, kr, hr⟩ := bld_out (place := fun j => some (j * i.size, i.size)) parts.toList _ _ _ (by simp) (fun j k x hj => ⟨_, _, rfl, by simp at hj; simp [hj]⟩) h
  refine ⟨_, _, kr, fun a hH w => ?_⟩
  have hs : szOf P e = some i.size := by simp [szOf, hi]
  have hr' : Instr.fill (fun j => some (j * i.size, i.size)) (repL z.cells.toList len).toArray (List.map (fun x => (x.fst, a.eval x.snd)) parts.toList) = some r.toArray := hr a hH
  have hrow := row_eq z.cells len
  rw [h2] at hrow
  simp only [execOp]
  by_cases h0 : len * i.size = 0
  · have hrep : repL z.cells.toList len = [] := by
      apply List.eq_nil_of_length_eq_zero
      rw [repL_length]; simpa [h2] using h0
    rw [hrep] at hr'
    simp only [Instr.buildSlice, Sem.run_bind, run_underlying he, Result.andThen, szOf_run hs, h0, if_true, Sem.run_pure]
    simp only [Nat.not_lt_zero, gt_iff_lt, if_false, Sem.run_pure, Array.range_zero', Array.map_empty, List.map_toArray, Array.toList_map, hr']
    simp [Array.range_zero', hr', newRow, newObj, Sem.run, MkV.val]
  · simp only [Instr.buildSlice, Sem.run_bind, run_underlying he, Result.andThen, szOf_run hs, if_neg (Nat.not_lt.2 h1), if_neg h0, Sem.run_pure]
    have hzv : ∀ w, (zeroValue e).run P w = .ok z w := fun w => by simp [zeroValue, typeInfo, hi, hz]
    simp only [Sem.run_bind, hzv, Result.andThen, Sem.run_pure, h2, hrow]
    simp [hr', newRow, newObj, Sem.run, MkV.val]

theorem make_mks {P : Program} {ρ : Env} {K : MkV → Obj → Prop} {dst : Option Tmp} {ty : TypeId} {pos : String} {after : Array Edge} {g : Option (Nat × Bool)}
    {t e : TypeId} {l c : Operand} {i : TypeInfo} {z : Value} (he : P.underlying t = some (.slice e)) (hi : P.info? e = some i)
    (hz : i.zero = some z) (h2 : z.cells.size = i.size) (h : aeVC ρ (.mks e i.bytes z.cells.toList l c) K) : Makes P ρ ⟨dst, .makeSlice t l c, ty, pos, after, g⟩ K := by
  obtain ⟨u, hu, h⟩ := evK.out h
  obtain ⟨k, n, rfl, h'⟩ := onInt.out h
  obtain ⟨v, hv, h'⟩ := evK.out h'
  obtain ⟨k', m, rfl, hb, h''⟩ := onInt.out h'
  refine ⟨_, _, h'', fun a hH w => ?_⟩
  obtain ⟨b1, b2, b3, b4⟩ := hb
  have hn : IntKind.i64.wrap n = n := by (simp [IntKind.wrap, IntKind.bits, IntKind.signed]; split <;> omega)
  have hm : IntKind.i64.wrap m = m := by (simp [IntKind.wrap, IntKind.bits, IntKind.signed]; split <;> omega)
  have hs : szOf P e = some i.size := by simp [szOf, hi]
  have hti : ∀ w, (typeInfo e).run P w = .ok i w := fun w => by simp [typeInfo, hi]
  have hzv : ∀ w, (zeroValue e).run P w = .ok z w := fun w => by simp [zeroValue, typeInfo, hi, hz]
  have hbig : ¬ (i.bytes : Int) * m > 2 ^ 48 := by
    rw [Int.mul_comm]; omega
  have hbig' : ¬ m.toNat * i.bytes > roomBytes := by
    have : ((m.toNat * i.bytes : Nat) : Int) = m * i.bytes := by rw [Int.natCast_mul, Int.toNat_of_nonneg (by omega)]
    have h47 : roomBytes = 140737488355328 := rfl
    omega
  have hrow := row_eq z.cells m.toNat
  rw [h2] at hrow
  simp only [execOp, hH.eval hu, hH.eval hv]
  simp only [Instr.makeSlice, Sem.run_bind, run_underlying he, Result.andThen, asInt, asIntOf, Sem.run_pure, hti, hn, hm]
  have c1 : ((decide (m < 0) || decide ((i.bytes : Int) * m > 2 ^ 48)) || decide (n < 0) || decide (n > m)) = false := by
    simp only [Bool.or_eq_false_iff, decide_eq_false_iff_not]
    exact ⟨⟨⟨by omega, hbig⟩, by omega⟩, by omega⟩
  simp only [c1, Bool.false_eq_true, if_false, askRoom, if_neg hbig', Sem.run_pure, szOf_run hs]
  by_cases h0 : m.toNat * i.size = 0
  · have hrep : repL z.cells.toList m.toNat = [] := by
      apply List.eq_nil_of_length_eq_zero
      rw [repL_length]; simpa [h2] using h0
    simp [szOf_run hs, h0, hrep, newRow, newObj, Sem.run, Array.range_zero', MkV.val]
  · simp only [szOf_run hs, if_neg h0, Sem.run_bind, hzv, Result.andThen, Sem.run_pure, h2, hrow]
    simp [newRow, newObj, Sem.run, MkV.val]

theorem ae_sound {P : Program} {o : Oper} {e : AE} (hc : compA P o.op = some e) {ρ : Env} {K : MkV → Obj → Prop} (h : aeVC ρ e K) : Makes P ρ o K := by
  obtain ⟨dst, op, ty, pos, after, g⟩ := o
  simp only at hc
  unfold compA at hc
  split at hc
  · obtain ⟨i, hi, hc⟩ := optOf_some hc
    obtain ⟨z, hz, hc⟩ := optOf_some hc
    cases hc
    exact ⟨_, _, h, fun a hH w => by simp [execOp, Instr.alloc, zeroValue, typeInfo, hi, hz, newVar, newRow, newObj, Sem.run, MkV.val]⟩
  · cases hc
    obtain ⟨u, hu, h⟩ := evK.out h
    rw [frc_eq] at h
    exact ⟨_, _, h, fun a hH w => by simp only [execOp, hH.eval hu]; simp [Instr.box, newVar, newRow, newObj, Sem.run, MkV.val]⟩
  · split at hc
    · obtain ⟨i, hi, hc⟩ := optOf_some hc
      obtain ⟨z, hz, hc⟩ := optOf_some hc
      split at hc
      · rename_i h1 h2
        cases hc
        exact make_bs ‹_› hi hz (of_decide_eq_true h1) (Nat.eq_of_beq_eq_true h2) h
      · cases hc
    · cases hc
  · cases hc
    exact ⟨_, _, h, fun a hH w => by simp [execOp, Instr.makeMap, newObj, Sem.run, MkV.val]⟩
  · split at hc
    · obtain ⟨i, hi, hc⟩ := optOf_some hc
      obtain ⟨z, hz, hc⟩ := optOf_some hc
      split at hc
      · rename_i h2
        rw [lit_eq] at hc
        cases hc
        exact make_mks ‹_› hi hz (Nat.eq_of_beq_eq_true h2) h
      · cases hc
    · cases hc
  · cases hc

end Go.Sv
