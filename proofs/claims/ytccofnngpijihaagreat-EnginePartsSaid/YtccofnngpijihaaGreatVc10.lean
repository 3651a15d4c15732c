/- Strings and bytes. -/
import Derived.Test.YtccofnngpijihaaGreatVc9
import Derived.Laws.IdiomStrings
set_option linter.all false
namespace Go.Sv

/-- The bytes of a string, and a string of bytes. -/
abbrev ls (s : ByteArray) : List UInt8 := s.data.toList
abbrev str (l : List UInt8) : ByteArray := ⟨l.toArray⟩
@[simp] theorem ls_str (l : List UInt8) : ls (str l) = l := by simp
@[simp] theorem str_ls (s : ByteArray) : str (ls s) = s := by simp
theorem ls_size (s : ByteArray) : (ls s).length = s.size := rfl
theorem ls_append (a b : ByteArray) : ls (a ++ b) = ls a ++ ls b := by simp
theorem str_size (l : List UInt8) : (str l).size = l.length := by simp [ByteArray.size]
theorem str_append (a b : List UInt8) : str a ++ str b = str (a ++ b) := by
  have : ls (str a ++ str b) = a ++ b := by rw [ls_append, ls_str, ls_str]
  rw [← str_ls (str a ++ str b), this]

/-- A byte as a value. -/
def u8v (x : UInt8) : Value := .int .u8 (x.toNat : Int)

def b2sOk (P : Program) (s d : TypeId) : Bool :=
  match P.underlying s, P.underlying d with
  | some (.slice e), some .string => match P.underlying e with
    | some (.int .u8) => true
    | _ => false
  | _, _ => false
def s2bOk (P : Program) (s d e : TypeId) : Bool :=
  match P.underlying s, P.underlying d with
  | some .string, some (.slice e') => Nat.beq e' e && match P.underlying e with
    | some (.int .u8) => true
    | _ => false
  | _, _ => false

theorem b2sOk.out {P : Program} {s d : TypeId} (h : b2sOk P s d = true) : ∃ e, P.underlying s = some (.slice e) ∧ P.underlying e = some (.int .u8) ∧ P.underlying d = some .string := by
  unfold b2sOk at h
  split at h
  · rename_i e h1 h2
    split at h
    · rename_i h3; exact ⟨e, h1, h3, h2⟩
    · cases h
  · cases h
theorem s2bOk.out {P : Program} {s d e : TypeId} (h : s2bOk P s d e = true) : P.underlying s = some .string ∧ P.underlying d = some (.slice e) ∧ P.underlying e = some (.int .u8) := by
  unfold s2bOk at h
  split at h
  · rename_i e' h1 h2
    rw [Bool.and_eq_true] at h
    obtain ⟨h3, h4⟩ := h
    have h3 := Nat.eq_of_beq_eq_true h3
    subst h3
    split at h4
    · rename_i h5; exact ⟨h1, h2, h5⟩
    · cases h4
  · cases h

/-- string(b). -/
theorem RawRd.b2s {P : Program} {s d : TypeId} {H : HL} {K : Value → Prop} {b off n c : Nat} {arr : Array Value} {T : TypeId} {m : Nat × Nat} {l : List UInt8} (hok : b2sOk P s d = true) (i : Nat) (h : nth H i = some (.one b (.cells arr T m)))
    (hl : cutL off n arr.toList = some (l.map u8v)) (k : K (.string (str l))) : RawRd P (convert s d (.slice (some ⟨b, off, none⟩) n c)) H K := by
  obtain ⟨e, h1, h2, h3⟩ := b2sOk.out hok
  refine ⟨_, fun F w0 w hk => ?_, k⟩
  have hb := hk.get (mem_of_nth h)
  obtain ⟨h4, h5⟩ := cutL_eq _ _ _ _ hl
  have hln : l.length = n := by simpa using h5
  subst hln
  refine run_convert_bytes_back w s d e ⟨b, off, none⟩ c l h1 h2 h3 fun j hj => ?_
  rw [Addr.add_lit, cell_of_block hb]
  have h6 : (l.map u8v)[j]? = some (u8v l[j]) := by simp [hj]
  rw [h4, List.getElem?_take, if_pos hj, List.getElem?_drop] at h6
  simpa [u8v] using h6

theorem RawRd.b2sN {P : Program} {s d : TypeId} {H : HL} {K : Value → Prop} {n c : Nat} (hok : b2sOk P s d = true) (k : K (.string (str []))) : RawRd P (convert s d (.slice none n c)) H K := by
  obtain ⟨e, h1, h2, h3⟩ := b2sOk.out hok
  refine ⟨_, fun F w0 w hk => ?_, k⟩
  simp [convert, run_underlying h1, run_underlying h2, run_underlying h3, Conv.bytesToString]
  rfl

theorem RawRd.b2sOwn {P : Program} {s d e : TypeId} {H : HL} {K : Value → Prop} {n cap : Nat} {l : List UInt8} {b : Option Addr} {c : Chunk} (hok : b2sOk P s d = true) (own : Own e 1 n (l.map u8v) b cap c) (i : Nat) (h : nth H i = some c)
    (k : K (.string (str l))) : RawRd P (convert s d (.slice b n cap)) H K := by
  generalize hx : l.map u8v = xs at own
  cases own with
  | nil =>
    have : l = [] := by simpa using hx
    subst this
    exact RawRd.b2sN hok k
  | row g n cap cur xs hn hc hs ht =>
    refine RawRd.b2s hok i h ?_ k
    rw [hx, ← ht]
    have : ∀ (n : Nat) (l : List Value), n ≤ l.length → takeL n l = some (l.take n) := by
      intro n
      induction n with
      | zero => intro l _; rfl
      | succ n ih =>
        intro l hl
        cases l with
        | nil => simp at hl
        | cons x l => simp [takeL, ih l (by simpa using hl)]
    rw [Nat.mul_one]
    exact this n cur.toList (by simp; omega)

/-- []byte(s). -/
theorem RawVC.s2b {P : Program} {s d e : TypeId} {H : HL} {K : Value → HL → Prop} {E : List PanicEntry → HL → Prop} {x : ByteArray} (hok : s2bOk P s d e = true)
    (k : ∀ g cap arr m, x.size ≤ cap → arr.size = cap → m = (cap, cap + 1) → arr.toList.take x.size = (ls x).map u8v → K (.slice (some ⟨g, 0, none⟩) x.size cap) (.one g (.cells arr e m) :: H)) :
    RawVC P (do pure (.value (← convert s d (.string x)))) H K E := by
  obtain ⟨h1, h2, h3⟩ := s2bOk.out hok
  refine ⟨fun F w0 w hk => .inl ?_⟩
  have hr := run_bytes_of_string (P := P) w s d e x h1 h2 h3
  have hge := grownCap_ge w x.size 0 e
  have hsz : (bytesRow x (grownCap w x.size 0 e)).size = grownCap w x.size 0 e := by
    simp [bytesRow]
    have : x.data.size = x.size := rfl
    omega
  refine ⟨_, .one w.heap.size _ :: H, w.drew.alloc (.cells (bytesRow x (grownCap w x.size 0 e)) e ((bytesRow x (grownCap w x.size 0 e)).size, (bytesRow x (grownCap w x.size 0 e)).size + 1)), .inl (by simp [hr, Result.andThen]),
    k w.heap.size _ (bytesRow x (grownCap w x.size 0 e)) _ hge hsz (by rw [hsz]) ?_, hk.drew.alloc _⟩
  have h7 : (x.data.toList.map u8v).length = x.size := by simp
  simp only [bytesRow, Array.toList_append, Array.toList_map]
  rw [← h7, List.take_left' (by rfl)]
  rfl

end Go.Sv
