/- Slices of a function's own, that grow: nil, or a row from its beginning on. -/
import Derived.Test.YtccofnngpijihaaGreatVc7
import Derived.Laws.AppendOwn
set_option linter.all false
namespace Go.Sv

/-- What a row needs of its type: cells an element, bytes an element. -/
def appOk (P : Program) (t e : TypeId) (size bytes : Nat) : Bool :=
  match P.underlying t with
  | some (.slice e') => Nat.beq e' e && match P.info? e with
    | some i => Nat.beq i.size size && Nat.beq i.bytes bytes && Nat.ble 1 size && Nat.ble 1 bytes && match i.zero with
      | some z => Nat.beq z.cells.size size
      | none => false
    | none => false
  | _ => false

theorem appOk.out {P : Program} {t e : TypeId} {size bytes : Nat} (h : appOk P t e size bytes = true) :
    ∃ i z, P.underlying t = some (.slice e) ∧ P.info? e = some i ∧ i.zero = some z ∧ i.size = size ∧ i.bytes = bytes ∧ z.cells.size = size ∧ 0 < size ∧ 0 < bytes := by
  unfold appOk at h
  split at h
  case h_2 => cases h
  rename_i e' h1
  rw [Bool.and_eq_true] at h
  obtain ⟨h0, h⟩ := h
  have h0 := Nat.eq_of_beq_eq_true h0
  subst h0
  split at h
  case h_2 => cases h
  rename_i i h2
  simp only [Bool.and_eq_true] at h
  obtain ⟨⟨⟨⟨h4, h5⟩, h6⟩, h7⟩, h⟩ := h
  split at h
  case h_2 => cases h
  rename_i z h3
  have h4 := Nat.eq_of_beq_eq_true h4
  have h5 := Nat.eq_of_beq_eq_true h5
  have h8 := Nat.eq_of_beq_eq_true h
  have h6 := Nat.le_of_ble_eq_true h6
  have h7 := Nat.le_of_ble_eq_true h7
  exact ⟨i, z, h1, h2, h3, h4, h5, h8, by omega, by omega⟩

/-- A slice of the function's own: where it begins, what room it has, its piece of memory; what lies in it, cell by cell. -/
inductive Own (e : TypeId) (size : Nat) : Nat → List Value → Option Addr → Nat → Chunk → Prop
  | nil : Own e size 0 [] none 0 (.many [])
  | row (g n cap : Nat) (cur : Array Value) (xs : List Value) (hn : n ≤ cap) (hc : cap ≤ maxLen) (hs : cur.size = cap * size) (ht : cur.toList.take (n * size) = xs) :
      Own e size n xs (some ⟨g, 0, none⟩) cap (.one g (.cells cur e (0, 0)))

theorem Own.len {e : TypeId} {size n cap : Nat} {xs : List Value} {b : Option Addr} {c : Chunk} (h : Own e size n xs b cap c) : xs.length = n * size := by
  cases h with
  | nil => simp
  | row g n cap cur xs hn hc hs ht =>
    subst ht
    have : n * size ≤ cap * size := Nat.mul_le_mul_right _ hn
    simp; omega

theorem all_one {l : List Value} (h : l.all one1 = true) : ∀ u ∈ l, u.oneCell' = true := by
  intro u hu
  have := List.all_eq_true.1 h u hu
  cases u <;> simp_all [one1, Value.oneCell']

theorem takeL_le {α : Type} : ∀ (n : Nat) (l r : List α), takeL n l = some r → n ≤ l.length := by
  intro n l r h
  obtain ⟨h1, h2⟩ := takeL_eq n l r h
  rw [h1, List.length_take] at h2
  omega

theorem cutL_le {α : Type} : ∀ (k n : Nat) (l r : List α), cutL k n l = some r → k + n ≤ l.length := by
  intro k
  induction k with
  | zero => intro n l r h; simpa using takeL_le n l r h
  | succ k ih =>
    intro n l r h
    cases l with
    | nil => simp [cutL] at h
    | cons x xs => have := ih n xs r h; simp only [List.length_cons]; omega

theorem Ok.swap {F : List Ent} {w0 w : World} {c : Chunk} {H : HL} {g : Nat} {o : Obj} (h : Ok F (c :: H) w0 w) (w' : World) (hg : (w'.heap[g]? = some o))
    (hkeep : ∀ k, k < w.heap.size → (∀ u, (k, u) ∉ c.ents) → w'.heap[k]? = w.heap[k]?) (hnew : w.heap.size ≤ g ∨ ∃ u, (g, u) ∈ c.ents) (he : Ext w w') : Ok F (.one g o :: H) w0 w' := by
  have hn := h.nodup
  simp only [flat, List.append_assoc, List.map_append] at hn
  rw [List.nodup_append] at hn
  obtain ⟨h1, h2, h3⟩ := hn
  have hs : ∀ e ∈ flat H ++ F, w'.heap[e.1]? = some e.2 := fun e hm => by
    have hm' : e ∈ flat (c :: H) ++ F := by simp only [flat, List.append_assoc]; exact List.mem_append.2 (.inr hm)
    rw [hkeep e.1 (h.lt hm') (fun u hu => h3 _ (List.mem_map_of_mem hu) e.1 (by rw [← List.map_append]; exact List.mem_map_of_mem hm) rfl)]
    exact h.sat e hm'
  refine ⟨fun e hm => ?_, ?_, he.os.trans h.ext.os, he.tape.trans h.ext.tape, he.output.trans h.ext.output⟩
  · simp only [flat_one, List.cons_append] at hm
    rcases List.mem_cons.1 hm with rfl | hm
    · exact hg
    · exact hs e hm
  · simp only [flat_one, List.cons_append, List.map_cons, List.nodup_cons, List.map_append]
    refine ⟨fun hm => ?_, h2⟩
    rw [← List.map_append] at hm
    obtain ⟨e, he1, he2⟩ := List.mem_map.1 hm
    rcases hnew with hnew | ⟨u, hu⟩
    · have hm' : e ∈ flat (c :: H) ++ F := by simp only [flat, List.append_assoc]; exact List.mem_append.2 (.inr he1)
      have := h.lt hm'
      omega
    · exact h3 _ (List.mem_map_of_mem hu) e.1 (by rw [← List.map_append]; exact List.mem_map_of_mem he1) he2.symm

/-- append onto a slice of the function's own, of what lies in a row. -/
theorem RawVC.app {P : Program} {t ty e : TypeId} {size bytes : Nat} {consts : Array Bool} {n cap m c2 ab off : Nat} {xs news : List Value} {b : Option Addr} {c : Chunk} {src : Array Value} {T : TypeId} {mm : Nat × Nat}
    {H R : HL} {K : Value → HL → Prop} {E : List PanicEntry → HL → Prop} (hok : appOk P t e size bytes = true) (own : Own e size n xs b cap c)
    (hB : (n + m) * bytes ≤ 140737488355328) (take : Take [c, .one ab (.cells src T mm)] H R) (hnews : cutL off (m * size) src.toList = some news) (h1 : news.all one1 = true)
    (k : ∀ b' cap' c', Own e size (n + m) (xs ++ news) b' cap' c' → K (.slice b' (n + m) cap') (c' :: .one ab (.cells src T mm) :: R)) :
    RawVC P (builtin .append #[t, t] ty consts #[.slice b n cap, .slice (some ⟨ab, off, none⟩) m c2]) H K E := by
  obtain ⟨i, z, ht, hi, hz, hsz, hby, hzs, hs0, hb0⟩ := appOk.out hok
  obtain ⟨hnv, hnl⟩ := cutL_eq _ _ _ _ hnews
  refine ⟨fun F w0 w hk => ?_⟩
  have hk2 := hk.take take
  have hsrc : w.heap[ab]? = some (.cells src T mm) := hk2.get (by simp)
  have hcell : ∀ j u, news[j]? = some u → w.cell? ((⟨ab, off, none⟩ : Addr).add j) = some u := by
    intro j u hu
    rw [Addr.add_lit, cell_of_block hsrc]
    rw [hnv, List.getElem?_take] at hu
    split at hu
    · rw [List.getElem?_drop] at hu; simpa using hu
    · cases hu
  have hlt := cutL_le _ _ _ _ hnews
  simp only [Array.length_toList] at hlt
  have hone := all_one h1
  have hown : w.ownsRow 0 e size (.slice b n cap) n xs := by
    refine ⟨own.len, ?_⟩
    cases own with
    | nil => exact .inl ⟨rfl, rfl⟩
    | row g n cap cur xs hn hc hs ht => exact .inr ⟨g, cap, cur, rfl, Nat.zero_le _, hk2.get (by simp), hn, hc, hs, ht⟩
  have hb1 : ∀ x : Sem Value, (builtin .append #[t, t] ty consts #[.slice b n cap, .slice (some ⟨ab, off, none⟩) m c2]) = (do pure (.value (← Builtin.append_ #[t, t] ty #[.slice b n cap, .slice (some ⟨ab, off, none⟩) m c2]))) := fun _ => rfl
  rw [hb1 (pure undef)]
  left
  have h63 : n + m ≤ 9223372036854775807 := by
    have : n + m ≤ (n + m) * bytes := Nat.le_mul_of_pos_right _ hb0
    omega
  obtain ⟨v', w', hr, hown', hgrown, _⟩ := run_append_own (P := P) w 0 t ty e i z size bytes ht hi hz hsz hby hzs hs0 (.slice b n cap) n xs hown ⟨ab, off, none⟩ m c2 news hnl hcell hone (by simpa [maxLen] using h63) hB (Nat.zero_le _)
  have back : ∀ H' : HL, Ok (flat R ++ F) H' w0 w' → Ok F (H' ++ R) w0 w' := fun H' h => h.perm (by simp)
  have fin : ∀ (g' cap2 : Nat), v' = .slice (some ⟨g', 0, none⟩) (n + m) cap2 → (w.heap.size ≤ g' ∨ ∃ u, (g', u) ∈ c.ents) → (∀ k, k < w.heap.size → (∀ u, (k, u) ∉ c.ents) → w'.heap[k]? = w.heap[k]?) →
      ∃ v H' w'', ((Builtin.append_ #[t, t] ty #[.slice b n cap, .slice (some ⟨ab, off, none⟩) m c2] >>= fun x => (pure (Next.value x) : Sem Next)).run P w = .ok (.value v) w'' ∨
        ((Builtin.append_ #[t, t] ty #[.slice b n cap, .slice (some ⟨ab, off, none⟩) m c2] >>= fun x => (pure (Next.value x) : Sem Next)).run P w = .ok .skip w'' ∧ v = undef)) ∧ K v H' ∧ Ok F H' w0 w'' := by
    intro g' cap2 hv' hnew hkeep
    subst hv'
    rcases hown'.2 with ⟨h0, _⟩ | ⟨g2, cap3, cur', h0, _, hg', hnc, hcm, hcs, htk⟩
    · cases h0
    · injection h0 with h01 h02 h03
      injection h01 with h01
      injection h01 with h01
      subst h01; subst h03
      have ok2 := back _ (hk2.swap w' hg' hkeep hnew ⟨hgrown.os, hgrown.tape, hgrown.output⟩)
      exact ⟨_, _, w', .inl (by simp [hr, Result.andThen]), k _ _ _ (.row g' (n + m) cap2 cur' _ hnc hcm hcs htk), ok2⟩
  cases own with
  | nil =>
    by_cases hm0 : m = 0
    · subst hm0
      have hn0 : news = [] := List.eq_nil_of_length_eq_zero (by simpa using hnl)
      subst hn0
      have hr' : (Builtin.append_ #[t, t] ty #[.slice none 0 0, .slice (some ⟨ab, off, none⟩) 0 c2]).run P w = .ok (.slice none 0 0) w := by
        simp [Builtin.append_, run_underlying ht, sizeOf, typeInfo, hi, Builtin.lenOf, Builtin.firstCells, loadCells, loadCellsFrom]
      refine ⟨_, _, w, .inl (by simp [hr', Result.andThen]), k none 0 (.many []) .nil, hk2.perm (by simp)⟩
    · have hm63 : ((0 + m : Nat) : Int) ≤ 9223372036854775807 := by omega
      have hr2 := run_append_nil (P := P) w t ty e i z ht hi hz ⟨ab, off, none⟩ m c2 news (by rw [hsz]; exact hnl) hcell (by omega) (by omega)
        (by rw [hby]; rw [Nat.zero_add] at hB; omega)
      rw [hr2] at hr
      injection hr with e1 e2
      refine fin _ _ (by rw [← e1, Nat.zero_add]) (.inl (Nat.le_refl _)) fun k hk _ => by rw [← e2]; exact heap_alloc_old w.drew _ k hk
  | row g n cap cur xs hn hc hs ht2 =>
    have hg : w.heap[g]? = some (.cells cur e (0, 0)) := hk2.get (by simp)
    by_cases hroom : n + m ≤ cap
    · have hr2 := run_append_room (P := P) w t ty e i ht hi g n cap cur hg ⟨ab, off, none⟩ m c2 news (by rw [hsz]; exact hnl) hcell hone hroom
        (by rw [hnl, hsz, hs, ← Nat.add_mul]; exact Nat.mul_le_mul_right _ hroom)
      rw [hr2] at hr
      injection hr with e1 e2
      refine fin g cap e1.symm (.inr ⟨_, by simp [Chunk.ents]; rfl⟩) fun k hk hne => by
        rw [← e2]; exact setRow_other w g k _ (fun h => hne _ (by rw [h]; simp [Chunk.ents]; rfl))
    · have holds : ∀ j u, xs[j]? = some u → w.cell? ((⟨g, 0, none⟩ : Addr).add j) = some u := hown.cells (g := g) rfl
      have hr2 := run_append_grow (P := P) w t ty e i z ht hi hz ⟨g, 0, none⟩ n cap xs (by rw [hsz]; exact hown.1) holds ⟨ab, off, none⟩ m c2 news (by rw [hsz]; exact hnl) hcell (by omega) (by omega)
        (growslice_fits (by omega) (by rw [hby]; exact hB))
      rw [hr2] at hr
      injection hr with e1 e2
      refine fin _ _ e1.symm (.inl (Nat.le_refl _)) fun k hk _ => by rw [← e2]; exact heap_alloc_old w.drew _ k hk
end Go.Sv
