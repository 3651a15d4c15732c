/- More of strings. -/
import Derived.Test.YtccofnngpijihaaGreatVc11
set_option linter.all false
namespace Go.Sv

theorem sb_size (s : ByteArray) (l h : Int) (h0 : 0 ≤ l) (h1 : l ≤ h) (h2 : h ≤ s.size) : ((sb s l h).size : Int) = h - l := by
  simp only [sb, ByteArray.size_extract]
  omega

theorem sb_ls (s : ByteArray) (l h : Int) : ls (sb s l h) = ((ls s).drop l.toNat).take (h.toNat - l.toNat) := by
  simp [sb, ls, ByteArray.data_extract, Array.toList_extract, List.extract]

theorem sb_all (s : ByteArray) : sb s 0 s.size = s := by simp [sb]

theorem bt_nn (s : ByteArray) (i : Int) : 0 ≤ bt s i ∧ bt s i ≤ 255 := by
  unfold bt
  have := (s.data.toList.getD i.toNat 0).toNat_lt
  omega

/-- What lies at a place of a string, as a byte. -/
def by8 (s : ByteArray) (i : Nat) : UInt8 := s.data.toList.getD i 0
theorem by8_bt (s : ByteArray) (i : Nat) : bt s (i : Int) = ((by8 s i).toNat : Int) := rfl

theorem take6 (l : List UInt8) (h : 6 ≤ l.length) : l.take 6 = [l.getD 0 0, l.getD 1 0, l.getD 2 0, l.getD 3 0, l.getD 4 0, l.getD 5 0] := by
  match l, h with
  | a :: b :: c :: d :: e :: f :: r, _ => simp

def rowOk (P : Program) (t e : TypeId) : Bool :=
  match P.underlying t with
  | some (.slice e') => Nat.beq e' e && (P.info? e).isSome
  | _ => false
theorem rowOk.out {P : Program} {t e : TypeId} (h : rowOk P t e = true) : ∃ i, P.underlying t = some (.slice e) ∧ P.info? e = some i := by
  unfold rowOk at h
  split at h
  · rename_i e' h1
    rw [Bool.and_eq_true] at h
    have h0 := Nat.eq_of_beq_eq_true h.1
    subst h0
    obtain ⟨i, hi⟩ := Option.isSome_iff_exists.1 h.2
    exact ⟨i, h1, hi⟩
  · cases h
theorem by8_sb (s : ByteArray) (l h : Int) (i : Nat) (hi : i < h.toNat - l.toNat) : by8 (sb s l h) i = by8 s (l.toNat + i) := by
  have h1 : (sb s l h).data.toList = ls (sb s l h) := rfl
  simp only [by8, h1, sb_ls, List.getD_eq_getElem?_getD, List.getElem?_take, if_pos hi, List.getElem?_drop]
theorem bt_sb (s : ByteArray) (l h : Int) (i : Nat) (hi : i < h.toNat - l.toNat) : bt (sb s l h) (i : Int) = bt s ((l.toNat + i : Nat) : Int) := by
  rw [by8_bt, by8_bt, by8_sb s l h i hi]
theorem take6s (s : ByteArray) (n : Nat) (hn : n = 6) (h : 6 ≤ s.size) : (ls s).take n = [by8 s 0, by8 s 1, by8 s 2, by8 s 3, by8 s 4, by8 s 5] := by
  subst hn; exact take6 _ h
theorem take6t (s : ByteArray) (n : Nat) (hn : n = 6) (h : 12 ≤ s.size) : (ls (sb s 6 s.size)).take n = [by8 s 6, by8 s 7, by8 s 8, by8 s 9, by8 s 10, by8 s 11] := by
  have h1 := sb_size s 6 s.size (by omega) (by omega) (by omega)
  have h2 : ∀ i, i < 6 → by8 (sb s 6 s.size) i = by8 s (6 + i) := fun i hi => by8_sb s 6 s.size i (by omega)
  rw [take6s _ n hn (by omega), h2 0 (by omega), h2 1 (by omega), h2 2 (by omega), h2 3 (by omega), h2 4 (by omega), h2 5 (by omega)]

/-- copy from a string. -/
theorem RawVC.copyS {P : Program} {t t2 ty e : TypeId} {consts : Array Bool} {n c b off : Nat} {s : ByteArray} {H : HL} {K : Value → HL → Prop} {E : List PanicEntry → HL → Prop}
    (hok : rowOk P t e = true) (i : Nat) {arr : Array Value} {T : TypeId} {l : List Value} {news : List UInt8} (h : nth H i = some (.one b (.cells arr T (0, 0))))
    (hn : (ls s).take n = news) (hs : setL arr.toList off (news.map u8v) = some l) (k : frc l fun l => repK H i (.one b (.cells l.toArray T (0, 0))) fun H' => K (.int .i64 (min s.size n : Nat)) H') :
    RawVC P (builtin .copy #[t, t2] ty consts #[.slice (some ⟨b, off, none⟩) n c, .string s]) H K E := by
  rw [frc_eq] at k
  obtain ⟨A, B, h1, h2⟩ := repK.out h k
  obtain ⟨ti, ht, hi⟩ := rowOk.out hok
  refine ⟨fun F w0 w hk => .inl ?_⟩
  have hb := hk.get (mem_of_nth h)
  have hone : (news.map u8v).all one1 = true := by simp [u8v, one1]
  obtain ⟨w', g1, g2, g3, g4⟩ := storeCells_run (P := P) (news.map u8v) w off 0 arr l hb (by simpa using hs) hone (fun j _ => by simp)
  have hcells : List.take (min s.size n) (List.map (fun b : UInt8 => Value.int .u8 (b.toNat : Int)) s.data.toList) = news.map u8v := by
    subst hn
    rw [List.map_take]
    have : s.size = s.data.toList.length := rfl
    rcases Nat.le_total s.size n with h | h
    · rw [Nat.min_eq_left h, List.take_of_length_le (by simp), List.take_of_length_le (by simpa using h)]; rfl
    · rw [Nat.min_eq_right h]; rfl
  refine ⟨_, _, w', .inl ?_, h2, ?_⟩
  · simp only [builtin, Builtin.copy_]
    simp [run_underlying ht, sizeOf, typeInfo, hi, Builtin.lenOf, Builtin.firstCells, Result.andThen]
    have g1' : Sem.run P (storeCells ⟨b, off, none⟩ (List.take (Nat.min s.size n) (List.map (fun b : UInt8 => Value.int .u8 (b.toNat : Int)) s.data.toList))) w = .ok () w' := by
      rw [show Nat.min s.size n = min s.size n from rfl, hcells]; exact g1
    rw [g1']
    rfl
  · rw [h1] at hk
    exact hk.of_heap rfl g3 g2 ⟨g4.os.trans hk.ext.os, g4.tape.trans hk.ext.tape, g4.output.trans hk.ext.output⟩
attribute [irreducible] by8
end Go.Sv
