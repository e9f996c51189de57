/-
  Plain functions on bytes: what both quoting functions write for a text.
  Conditions: none.
-/
import Derived.Shelf.Unicode.DecodeAny
import Derived.Lib.QuoteLoop
import Derived.Lib.TrimU
import Derived.Lib.Bytealg
namespace Go.Proofs.YtcfebjekigcolaaDoor.Pl
open Go

def hexB : List UInt8 := [48, 49, 50, 51, 52, 53, 54, 55, 56, 57, 97, 98, 99, 100, 101, 102]
def marks : List UInt8 := [7, 8, 9, 10, 11, 12, 13, 92, 34]
def escs : List UInt8 := [97, 98, 116, 110, 118, 102, 114, 92, 34]
/-- where a byte stands among the marks; -1 -/
def markIx (b : UInt8) : Int := Lib.indexByte marks b
/-- what is decoded at a -/
def dec (s : ByteArray) (a : Nat) : Nat × Nat := Lib.decodeGo (s.extract a s.size)
/-- is a byte written by its number? -/
def byNumber (b : UInt8) (d : Nat × Nat) : Bool := decide (b.toNat < 32) || b.toNat == 127 || (d.1 == 65533 && d.2 == 1)
/-- what is written for what stands at a -/
def chunk (s : ByteArray) (a : Nat) : List UInt8 :=
  if 0 ≤ markIx (s.data.toList.getD a 0) then [92, escs.getD (markIx (s.data.toList.getD a 0)).toNat 0]
  else if byNumber (s.data.toList.getD a 0) (dec s a) = true then [92, 120, hexB.getD ((s.data.toList.getD a 0).toNat / 16) 0, hexB.getD ((s.data.toList.getD a 0).toNat % 16) 0]
  else (s.extract a (a + (dec s a).2)).data.toList
def run (s : ByteArray) : Nat → Nat → List UInt8
  | 0, _ => []
  | f + 1, a => if a < s.size then chunk s a ++ run s f (a + (dec s a).2) else []
/-- the quoted text -/
def quote (s : ByteArray) : List UInt8 := 34 :: run s s.size 0 ++ [34]

theorem dec_pos (s : ByteArray) (a : Nat) (h : a < s.size) : 1 ≤ (dec s a).2 ∧ a + (dec s a).2 ≤ s.size := by
  have hs : (s.extract a s.size).size = s.size - a := by simp [ByteArray.size_extract]
  unfold dec Lib.decodeGo
  rw [if_neg (by omega)]
  have h1 := Lib.width_pos (s.extract a s.size) 0
  have h2 := Lib.width_le (s.extract a s.size) (by omega)
  omega
theorem run_more (s : ByteArray) : ∀ (f g a : Nat), s.size - a ≤ f → s.size - a ≤ g → run s f a = run s g a := by
  intro f
  induction f with
  | zero =>
    intro g a h1 h2
    cases g with
    | zero => rfl
    | succ g => simp only [run]; rw [if_neg (by omega)]
  | succ f ih =>
    intro g a h1 h2
    cases g with
    | zero => simp only [run]; rw [if_neg (by omega)]
    | succ g =>
      simp only [run]
      by_cases h : a < s.size
      · have := dec_pos s a h
        rw [if_pos h, if_pos h, ih g _ (by omega) (by omega)]
      · rw [if_neg h, if_neg h]
/-- one step of the quoting -/
theorem run_step (s : ByteArray) (a : Nat) (h : a < s.size) : run s s.size a = chunk s a ++ run s s.size (a + (dec s a).2) := by
  have hd := dec_pos s a h
  obtain ⟨f, hf⟩ : ∃ f, s.size = f + 1 := ⟨s.size - 1, by omega⟩
  have e : run s (f + 1) a = chunk s a ++ run s f (a + (dec s a).2) := by simp only [run]; rw [if_pos h]
  have e2 := run_more s (f + 1) s.size a (by omega) (by omega)
  have e3 := run_more s f s.size (a + (dec s a).2) (by omega) (by omega)
  rw [← e2, e, e3]
theorem run_end (s : ByteArray) (a : Nat) (h : s.size ≤ a) : run s s.size a = [] := by
  cases hs : s.size with
  | zero => rfl
  | succ f => simp only [run]; rw [if_neg (by omega)]
theorem chunk_len (s : ByteArray) (a : Nat) (h : a < s.size) : (chunk s a).length ≤ 4 * (dec s a).2 := by
  have hd := dec_pos s a h
  unfold chunk
  split
  · simp; omega
  · split
    · simp; omega
    · simp only [Array.length_toList, ByteArray.size_data, ByteArray.size_extract]; omega
theorem run_len (s : ByteArray) : ∀ (f a : Nat), s.size - a ≤ f → (run s f a).length ≤ 4 * (s.size - a) := by
  intro f
  induction f with
  | zero => intro a _; simp [run]
  | succ f ih =>
    intro a h
    simp only [run]
    by_cases ha : a < s.size
    · have hd := dec_pos s a ha
      have hc := chunk_len s a ha
      have := ih (a + (dec s a).2) (by omega)
      rw [if_pos ha, List.length_append]
      omega
    · rw [if_neg ha]; simp
theorem quote_len (s : ByteArray) : (quote s).length ≤ 4 * s.size + 2 := by
  have := run_len s s.size 0 (by omega)
  unfold quote
  simp only [List.cons_append, List.length_cons, List.length_append, List.length_nil]
  omega
theorem indexByte_lt (l : List UInt8) (c : UInt8) : Lib.indexByte l c < l.length := by
  induction l with
  | nil => simp [Lib.indexByte]
  | cons b l ih =>
    simp only [Lib.indexByte, List.length_cons]
    split
    · omega
    · split <;> omega
theorem at_get (s : ByteArray) (a : Nat) (h : a < s.size) : s.data.toList.getD a 0 = s[a] := by
  have h' : a < s.data.toList.length := by simpa using h
  rw [List.getD_eq_getElem?_getD, List.getElem?_eq_getElem h']
  simp [ByteArray.getElem_eq_getElem_data]
theorem chunk_mark (s : ByteArray) (a : Nat) (h : a < s.size) (hm : 0 ≤ Lib.indexByte [7, 8, 9, 10, 11, 12, 13, 92, 34] s[a]) :
    chunk s a = [92, escs.getD (Lib.indexByte [7, 8, 9, 10, 11, 12, 13, 92, 34] s[a]).toNat 0] := by
  unfold chunk
  rw [at_get s a h]
  rw [if_pos (show 0 ≤ markIx s[a] from hm)]
  rfl
theorem chunk_number (s : ByteArray) (a : Nat) (h : a < s.size) (hm : ¬ 0 ≤ Lib.indexByte [7, 8, 9, 10, 11, 12, 13, 92, 34] s[a])
    (hn : s[a].toNat < 32 ∨ s[a].toNat = 127 ∨ ((Lib.decodeGo (s.extract a s.size)).1 = 65533 ∧ (Lib.decodeGo (s.extract a s.size)).2 = 1)) :
    chunk s a = [92, 120, hexB.getD (s[a].toNat / 16) 0, hexB.getD (s[a].toNat % 16) 0] := by
  unfold chunk
  rw [at_get s a h]
  rw [if_neg (show ¬ 0 ≤ markIx s[a] from hm), if_pos]
  unfold byNumber dec
  simpa [or_assoc] using hn
theorem chunk_plain (s : ByteArray) (a : Nat) (h : a < s.size) (hm : ¬ 0 ≤ Lib.indexByte [7, 8, 9, 10, 11, 12, 13, 92, 34] s[a])
    (hn : ¬ (s[a].toNat < 32 ∨ s[a].toNat = 127 ∨ ((Lib.decodeGo (s.extract a s.size)).1 = 65533 ∧ (Lib.decodeGo (s.extract a s.size)).2 = 1))) :
    chunk s a = (s.extract a (a + (Lib.decodeGo (s.extract a s.size)).2)).data.toList := by
  unfold chunk
  rw [at_get s a h]
  rw [if_neg (show ¬ 0 ≤ markIx s[a] from hm), if_neg]
  · rfl
  · unfold byNumber dec
    simpa [or_assoc] using hn
end Go.Proofs.YtcfebjekigcolaaDoor.Pl
