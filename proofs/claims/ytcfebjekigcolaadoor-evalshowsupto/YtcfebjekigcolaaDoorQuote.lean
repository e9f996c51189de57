/-
  lexer.Quote gives the quoted text.
  Conditions: the text is at most 2^44 bytes; the two tables of unicode/utf8 hold what their initialisers lay.
-/
import Derived.Test.YtcfebjekigcolaaDoorBuilder
import Derived.Test.YtcfebjekigcolaaDoorPlain
import Derived.Lib.AppendIntMem
import Derived.Lib.Hide
namespace Go.Proofs.YtcfebjekigcolaaDoor.Qt
open Go Go.Shelf Go.RowKit Go.Proofs
set_option linter.unusedVariables false
set_option linter.unusedSimpArgs false

/-- the tables of the library that are read -/
def LaidW (w : World) : Prop := Lib.TabIs Tryd.prog w "internal/strconv.uint64pow10" .u64 Lib.pow10Tab ∧ Lib.Utf8Tabs 1 2 w
theorem LaidW.below {w w' : World} (h : LaidW w) (hb : Below w.heap.size w w') : LaidW w' := ⟨Lib.tabBelow_of_tabIs h.1 w' hb, Utf8Tabs_below h.2 hb⟩

theorem byteCells_app (l r : List UInt8) : Lib.byteCells (l ++ r) = Lib.byteCells l ++ Lib.byteCells r := by simp [Lib.byteCells]
theorem byteCells_one (b : UInt8) : Lib.byteCells [b] = [.int .u8 b.toNat] := by simp [Lib.byteCells]

theorem two : (ByteArray.mk #[92, 120]).size = 2 := rfl
theorem lit (l : List UInt8) (i : Nat) (h : i < (ByteArray.mk l.toArray).size) : (ByteArray.mk l.toArray)[i] = l.getD i 0 := by
  have h' : i < l.length := by simpa [ByteArray.size] using h
  rw [List.getD_eq_getElem?_getD, List.getElem?_eq_getElem h']
  simp [ByteArray.getElem_eq_getElem_data]
/-- the head of the loop after a round -/
theorem next (s : ByteArray) (w w3 : World) (a : Nat) (l c : List UInt8) (cells : List Value) (n : Int) (hn : n = (Lib.decodeGo (s.extract a s.size)).snd) (hlt : a < s.size) (ha : a ≤ s.size)
    (hd : 1 ≤ (Lib.decodeGo (s.extract a s.size)).2 ∧ a + (Lib.decodeGo (s.extract a s.size)).2 ≤ s.size)
    (hrun : Hid (34 :: l ++ Pl.run s s.size a = 34 :: Pl.run s s.size 0)) (hl : l.length ≤ 4 * a) (hc : Pl.chunk s a = c)
    (hI : Lib.IsBuilder 34 5 w.heap.size w.heap.size (Lib.byteCells (34 :: l) ++ cells) w3) (hB : Below w.heap.size w w3) (hcells : cells = Lib.byteCells c) :
    (∃ a_1 : Nat, ∃ l : List UInt8, Value.int IntKind.i64 (↑a + n) = Value.int IntKind.i64 ↑a_1 ∧ a_1 ≤ s.size ∧
      Hid (34 :: l ++ Pl.run s s.size a_1 = 34 :: Pl.run s s.size 0) ∧ l.length ≤ 4 * a_1 ∧
      Lib.IsBuilder 34 5 w.heap.size w.heap.size (Lib.byteCells (34 :: l)) w3 ∧ Below w.heap.size w w3) ∧
    s.size - (intOf (Value.int IntKind.i64 (↑a + n))).toNat < s.size - (intOf (Value.int IntKind.i64 ↑a)).toNat := by
  subst hn
  have hlen := Pl.chunk_len s a hlt
  have hstep := Pl.run_step s a hlt
  unfold Pl.dec at hlen hstep
  rw [hc] at hlen hstep
  refine ⟨⟨a + (Lib.decodeGo (s.extract a s.size)).2, l ++ c, by simp, hd.2, ?_, by simp only [List.length_append]; omega, ?_, hB⟩, ?_⟩
  · refine Lib.hid ?_
    rw [← hrun.out, hstep]
    simp
  · rw [← List.cons_append, byteCells_app, ← hcells]
    exact hI
  · simp only [intOf]
    omega

set_option maxHeartbeats 4000000 in
set_option maxRecDepth 100000 in
theorem quote (s : ByteArray) (w : World) (hs : s.size ≤ 17592186044416) (hL : LaidW w) :
    Calls Tryd.prog 18 #[.string s] w fun e w' => e = .returned (.string ⟨(Pl.quote s).toArray⟩) ∧ Below w.heap.size w w' := by
  have HL := Lib.hid hL
  clear hL
  go_enter Tryd.func18, Tryd.ntmps18
  go_wp2_with (go_at_call 8; refine (Bld.writeByte w.heap.size w.heap.size [] 34 _ (Lib.fresh_isBuilder 34 5 w) (by simp) (by simp)).mono ?_)
  rintro e w1 ⟨rfl, h1, hb1⟩
  have H1 : Lib.IsBuilder 34 5 w.heap.size w.heap.size (Lib.byteCells (34 :: [])) w1 := h1
  have hB1 : Below w.heap.size w w1 := ((Below.refl _ _).alloc (Nat.le_refl _) _).trans hb1
  clear h1 hb1
  go_wp2
  go_loopw [4] (fun v wr => ∃ a : Nat, ∃ l : List UInt8, v = .int .i64 a ∧ a ≤ s.size ∧ Hid (34 :: l ++ Pl.run s s.size a = 34 :: Pl.run s s.size 0) ∧ l.length ≤ 4 * a ∧ Lib.IsBuilder 34 5 w.heap.size w.heap.size (Lib.byteCells (34 :: l)) wr ∧ Below w.heap.size w wr) (fun v _ => s.size - (intOf v).toNat)
  case atStart => exact ⟨0, [], rfl, Nat.zero_le _, rfl, by simp, H1, hB1⟩
  case round =>
    obtain ⟨a, l, rfl, ha, hrun, hl, hI, hB⟩ := hrel
    have hsz := hB.size
    by_cases hlt : a < s.size
    · have hd := Pl.dec_pos s a hlt
      have hm9 := Pl.indexByte_lt [7, 8, 9, 10, 11, 12, 13, 92, 34] s[a]
      have hm9' : Lib.indexByte [7, 8, 9, 10, 11, 12, 13, 92, 34] s[a] < 9 := hm9
      unfold Pl.dec at hd
      have hb : s[a].toNat < 256 := s[a].toNat_lt
      by_cases hm : 0 ≤ Lib.indexByte [7, 8, 9, 10, 11, 12, 13, 92, 34] s[a]
      · have hc := Pl.chunk_mark s a hlt hm
        go_wp2_with (first | (go_at_call 20; refine (Tryd.utf8_DecodeRuneInString _ _ (HL.out.below hB).2).mono ?_; rintro e w2 ⟨rfl, hB2⟩; have hI := hI.below hB2; have hB := hB.trans (hB2.mono hsz)) | (go_at_call 26; refine (Tryd.strings_IndexByte _ _ _).mono ?_; rintro e w3 ⟨rfl, rfl⟩) | (go_at_call 8; refine (Bld.writeByte w.heap.size w.heap.size _ _ _ hI (by simp only [two, Lib.byteCells, Lib.strCells_length, List.length_append, List.length_map, List.length_cons, List.length_nil]; omega) hB.size).mono ?_; rintro e w3 ⟨rfl, hI, hB3⟩; have hB := hB.trans hB3) | (go_at_call 9; (refine (Bld.writeString w.heap.size w.heap.size _ _ _ hI (by simp only [two, ByteArray.size_extract, Lib.byteCells, Lib.strCells_length, List.length_append, List.length_map, List.length_cons, List.length_nil]; omega) hB.size).mono ?_); rintro e w3 ⟨rfl, hI, hB3⟩; have hB := hB.trans hB3))
        refine next s w _ a l _ _ _ rfl hlt ha hd hrun hl hc (by rw [List.append_assoc] at hI; exact hI) hB ?_
        simp only [Lib.byteCells, lit, Pl.escs, List.map_cons, List.map_nil]
        rfl
      · by_cases h32 : s[a].toNat < 32
        · have hc := Pl.chunk_number s a hlt hm (.inl h32)
          go_wp2_with (first | (go_at_call 20; refine (Tryd.utf8_DecodeRuneInString _ _ (HL.out.below hB).2).mono ?_; rintro e w2 ⟨rfl, hB2⟩; have hI := hI.below hB2; have hB := hB.trans (hB2.mono hsz)) | (go_at_call 26; refine (Tryd.strings_IndexByte _ _ _).mono ?_; rintro e w3 ⟨rfl, rfl⟩) | (go_at_call 8; refine (Bld.writeByte w.heap.size w.heap.size _ _ _ hI (by simp only [two, Lib.byteCells, Lib.strCells_length, List.length_append, List.length_map, List.length_cons, List.length_nil]; omega) hB.size).mono ?_; rintro e w3 ⟨rfl, hI, hB3⟩; have hB := hB.trans hB3) | (go_at_call 9; (refine (Bld.writeString w.heap.size w.heap.size _ _ _ hI (by simp only [two, ByteArray.size_extract, Lib.byteCells, Lib.strCells_length, List.length_append, List.length_map, List.length_cons, List.length_nil]; omega) hB.size).mono ?_); rintro e w3 ⟨rfl, hI, hB3⟩; have hB := hB.trans hB3))
          refine next s w _ a l _ _ _ rfl hlt ha hd hrun hl hc (by rw [List.append_assoc, List.append_assoc] at hI; exact hI) hB ?_
          simp only [Lib.byteCells, lit, Pl.hexB, List.map_cons, List.map_nil]
          rfl
        · by_cases h127 : s[a].toNat = 127
          · have hc := Pl.chunk_number s a hlt hm (.inr (.inl h127))
            go_wp2_with (first | (go_at_call 20; refine (Tryd.utf8_DecodeRuneInString _ _ (HL.out.below hB).2).mono ?_; rintro e w2 ⟨rfl, hB2⟩; have hI := hI.below hB2; have hB := hB.trans (hB2.mono hsz)) | (go_at_call 26; refine (Tryd.strings_IndexByte _ _ _).mono ?_; rintro e w3 ⟨rfl, rfl⟩) | (go_at_call 8; refine (Bld.writeByte w.heap.size w.heap.size _ _ _ hI (by simp only [two, Lib.byteCells, Lib.strCells_length, List.length_append, List.length_map, List.length_cons, List.length_nil]; omega) hB.size).mono ?_; rintro e w3 ⟨rfl, hI, hB3⟩; have hB := hB.trans hB3) | (go_at_call 9; (refine (Bld.writeString w.heap.size w.heap.size _ _ _ hI (by simp only [two, ByteArray.size_extract, Lib.byteCells, Lib.strCells_length, List.length_append, List.length_map, List.length_cons, List.length_nil]; omega) hB.size).mono ?_); rintro e w3 ⟨rfl, hI, hB3⟩; have hB := hB.trans hB3))
            refine next s w _ a l _ _ _ rfl hlt ha hd hrun hl hc (by rw [List.append_assoc, List.append_assoc] at hI; exact hI) hB ?_
            simp only [Lib.byteCells, lit, Pl.hexB, List.map_cons, List.map_nil, h127]
            rfl
          · have hsl : ∀ wx, (Instr.slice 9 (.string s) (some (.int .i64 (a : Int))) (some (.int .i64 ((a : Int) + ((Lib.decodeGo (s.extract a s.size)).2 : Int)))) none).run Tryd.prog wx = .ok (.string (s.extract a (a + (Lib.decodeGo (s.extract a s.size)).2))) wx := by
              intro wx
              have := run_slice_string (P := Tryd.prog) wx 9 s .i64 .i64 (a : Int) ((a : Int) + ((Lib.decodeGo (s.extract a s.size)).2 : Int)) Tryd.underlying9 (by omega) (by omega) (by omega)
              simpa only [Int.toNat_natCast, ← Int.natCast_add] using this
            have f32 : decide ((s[a].toNat : Int) < 32) = false := decide_eq_false (by omega)
            have f127 : ((s[a].toNat : Int) == 127) = false := by rw [beq_eq_false_iff_ne]; omega
            by_cases hr : (Lib.decodeGo (s.extract a s.size)).1 = 65533
            · by_cases h1 : (Lib.decodeGo (s.extract a s.size)).2 = 1
              · have hc := Pl.chunk_number s a hlt hm (.inr (.inr ⟨hr, h1⟩))
                go_wp2_with (first | (go_at_call 20; refine (Tryd.utf8_DecodeRuneInString _ _ (HL.out.below hB).2).mono ?_; rintro e w2 ⟨rfl, hB2⟩; have hI := hI.below hB2; have hB := hB.trans (hB2.mono hsz)) | (go_at_call 26; refine (Tryd.strings_IndexByte _ _ _).mono ?_; rintro e w3 ⟨rfl, rfl⟩) | (go_at_call 8; refine (Bld.writeByte w.heap.size w.heap.size _ _ _ hI (by simp only [two, Lib.byteCells, Lib.strCells_length, List.length_append, List.length_map, List.length_cons, List.length_nil]; omega) hB.size).mono ?_; rintro e w3 ⟨rfl, hI, hB3⟩; have hB := hB.trans hB3) | (go_at_call 9; (refine (Bld.writeString w.heap.size w.heap.size _ _ _ hI (by simp only [two, ByteArray.size_extract, Lib.byteCells, Lib.strCells_length, List.length_append, List.length_map, List.length_cons, List.length_nil]; omega) hB.size).mono ?_); rintro e w3 ⟨rfl, hI, hB3⟩; have hB := hB.trans hB3))
                refine next s w _ a l _ _ _ (by rw [h1]; rfl) hlt ha hd hrun hl hc (by rw [List.append_assoc, List.append_assoc] at hI; exact hI) hB ?_
                simp only [Lib.byteCells, lit, Pl.hexB, List.map_cons, List.map_nil]
                rfl
              · have hc := Pl.chunk_plain s a hlt hm (by simp [h32, h127, hr, h1])
                have f1 : (((Lib.decodeGo (s.extract a s.size)).2 : Int) == 1) = false := by rw [beq_eq_false_iff_ne]; omega
                go_wp2_with (first | (go_at_call 20; refine (Tryd.utf8_DecodeRuneInString _ _ (HL.out.below hB).2).mono ?_; rintro e w2 ⟨rfl, hB2⟩; have hI := hI.below hB2; have hB := hB.trans (hB2.mono hsz)) | (go_at_call 26; refine (Tryd.strings_IndexByte _ _ _).mono ?_; rintro e w3 ⟨rfl, rfl⟩) | (go_at_call 8; refine (Bld.writeByte w.heap.size w.heap.size _ _ _ hI (by simp only [two, Lib.byteCells, Lib.strCells_length, List.length_append, List.length_map, List.length_cons, List.length_nil]; omega) hB.size).mono ?_; rintro e w3 ⟨rfl, hI, hB3⟩; have hB := hB.trans hB3) | (go_at_call 9; (refine (Bld.writeString w.heap.size w.heap.size _ _ _ hI (by simp only [two, ByteArray.size_extract, Lib.byteCells, Lib.strCells_length, List.length_append, List.length_map, List.length_cons, List.length_nil]; omega) hB.size).mono ?_); rintro e w3 ⟨rfl, hI, hB3⟩; have hB := hB.trans hB3))
                exact next s w _ a l _ _ _ rfl hlt ha hd hrun hl hc hI hB rfl
            · have hc := Pl.chunk_plain s a hlt hm (by simp [h32, h127, hr])
              have fr : (((Lib.decodeGo (s.extract a s.size)).1 : Int) == 65533) = false := by rw [beq_eq_false_iff_ne]; omega
              go_wp2_with (first | (go_at_call 20; refine (Tryd.utf8_DecodeRuneInString _ _ (HL.out.below hB).2).mono ?_; rintro e w2 ⟨rfl, hB2⟩; have hI := hI.below hB2; have hB := hB.trans (hB2.mono hsz)) | (go_at_call 26; refine (Tryd.strings_IndexByte _ _ _).mono ?_; rintro e w3 ⟨rfl, rfl⟩) | (go_at_call 8; refine (Bld.writeByte w.heap.size w.heap.size _ _ _ hI (by simp only [two, Lib.byteCells, Lib.strCells_length, List.length_append, List.length_map, List.length_cons, List.length_nil]; omega) hB.size).mono ?_; rintro e w3 ⟨rfl, hI, hB3⟩; have hB := hB.trans hB3) | (go_at_call 9; (refine (Bld.writeString w.heap.size w.heap.size _ _ _ hI (by simp only [two, ByteArray.size_extract, Lib.byteCells, Lib.strCells_length, List.length_append, List.length_map, List.length_cons, List.length_nil]; omega) hB.size).mono ?_); rintro e w3 ⟨rfl, hI, hB3⟩; have hB := hB.trans hB3))
              exact next s w _ a l _ _ _ rfl hlt ha hd hrun hl hc hI hB rfl
    · have hlen : (Lib.byteCells (34 :: l)).length + 1 ≤ 140737488355328 := by simp [Lib.byteCells]; omega
      go_wp2_with (go_at_call 8; refine (Bld.writeByte w.heap.size w.heap.size _ 34 _ hI hlen hsz).mono ?_)
      rintro e w2 ⟨rfl, hI2, hB2⟩
      have hI3 : Lib.IsBuilder 34 5 w.heap.size w.heap.size (Lib.byteCells (34 :: l ++ [34])) w2 := by rw [byteCells_app, byteCells_one]; exact hI2
      have hsz2 := hB2.size
      go_wp2_with (go_at_call 11; refine (Tryd.Builder_String_any w.heap.size w.heap.size _ _ hI3 (by omega)).mono ?_)
      rintro e w3 ⟨rfl, hB3⟩
      go_wp2
      go_ret
      refine ⟨?_, (hB.trans hB2).trans hB3⟩
      have e0 := hrun.out
      rw [Pl.run_end s a (by omega)] at e0
      rw [Pl.quote, ← List.cons_append, ← e0]
      simp
end Go.Proofs.YtcfebjekigcolaaDoor.Qt
