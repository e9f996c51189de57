/-
  monikerref2.Quote gives the quoted text.
  Conditions: the text is at most 2^44 bytes; the two tables of unicode/utf8 hold what their initialisers lay.
-/
import Derived.Test.YtcfebjekigcolaaDoorQuote
import Derived.Laws.DeepStrings4
import Derived.Deep.QuietTactic
import Derived.BigQuiet
namespace Go.Proofs.YtcfebjekigcolaaDoor.Rq
open Go Go.Shelf Go.RowKit Go.Proofs Go.Proofs.YtcfebjekigcolaaDoor.Qt
set_option linter.unusedVariables false
set_option linter.unusedSimpArgs false

theorem app_list (x y : ByteArray) : (x ++ y).data.toList = x.data.toList ++ y.data.toList := by simp
theorem noMark (b : UInt8) (h1 : ¬ (7 ≤ b.toNat ∧ b.toNat ≤ 13)) (h2 : b.toNat ≠ 34) (h3 : b.toNat ≠ 92) : ¬ 0 ≤ Lib.indexByte [7, 8, 9, 10, 11, 12, 13, 92, 34] b := by
  have e : ∀ c : UInt8, b.toNat ≠ c.toNat → (c == b) = false := by
    intro c h
    rw [beq_eq_false_iff_ne]
    intro h'
    exact h (by rw [h'])
  have e7 := e 7 (by show b.toNat ≠ 7; omega)
  have e8 := e 8 (by show b.toNat ≠ 8; omega)
  have e9 := e 9 (by show b.toNat ≠ 9; omega)
  have e10 := e 10 (by show b.toNat ≠ 10; omega)
  have e11 := e 11 (by show b.toNat ≠ 11; omega)
  have e12 := e 12 (by show b.toNat ≠ 12; omega)
  have e13 := e 13 (by show b.toNat ≠ 13; omega)
  have e92 := e 92 h3
  have e34 := e 34 h2
  simp [Lib.indexByte, e7, e8, e9, e10, e11, e12, e13, e92, e34]
theorem eqByte (b : UInt8) (n : UInt8) (h : b.toNat = n.toNat) : b = n := UInt8.toNat_inj.1 h
theorem chunk_low (s : ByteArray) (a : Nat) (h : a < s.size) (h1 : 7 ≤ s[a].toNat) (h2 : s[a].toNat ≤ 13) :
    Pl.chunk s a = ((⟨#[92]⟩ : ByteArray) ++ (ByteArray.mk #[97, 98, 116, 110, 118, 102, 114]).extract (s[a].toNat - 7) (s[a].toNat - 6)).data.toList := by
  unfold Pl.chunk
  rw [Pl.at_get s a h]
  generalize s[a] = b at *
  have : b = 7 ∨ b = 8 ∨ b = 9 ∨ b = 10 ∨ b = 11 ∨ b = 12 ∨ b = 13 := by
    rcases (show b.toNat = 7 ∨ b.toNat = 8 ∨ b.toNat = 9 ∨ b.toNat = 10 ∨ b.toNat = 11 ∨ b.toNat = 12 ∨ b.toNat = 13 by omega) with e | e | e | e | e | e | e
    · exact .inl (eqByte b 7 e)
    · exact .inr (.inl (eqByte b 8 e))
    · exact .inr (.inr (.inl (eqByte b 9 e)))
    · exact .inr (.inr (.inr (.inl (eqByte b 10 e))))
    · exact .inr (.inr (.inr (.inr (.inl (eqByte b 11 e)))))
    · exact .inr (.inr (.inr (.inr (.inr (.inl (eqByte b 12 e))))))
    · exact .inr (.inr (.inr (.inr (.inr (.inr (eqByte b 13 e))))))
  rcases this with rfl | rfl | rfl | rfl | rfl | rfl | rfl <;> rfl
theorem one_byte (s : ByteArray) (a : Nat) (h : a < s.size) : (s.extract a (a + 1)).data.toList = [s[a]] := by
  have h' : a < s.data.toList.length := by simpa using h
  simp only [ByteArray.data_extract, Array.toList_extract, List.extract_eq_take_drop]
  rw [show a + 1 - a = 1 by omega, List.drop_eq_getElem_cons h']
  simp [ByteArray.getElem_eq_getElem_data]
theorem chunk_self (s : ByteArray) (a : Nat) (h : a < s.size) (h1 : s[a].toNat = 34 ∨ s[a].toNat = 92) :
    Pl.chunk s a = ((⟨#[92]⟩ : ByteArray) ++ s.extract a (a + 1)).data.toList := by
  rw [app_list, one_byte s a h]
  unfold Pl.chunk
  rw [Pl.at_get s a h]
  generalize s[a] = b at *
  rcases h1 with h1 | h1
  · rw [eqByte b 34 h1]; rfl
  · rw [eqByte b 92 h1]; rfl
theorem hexAt : ∀ i, i < 16 → ((ByteArray.mk #[48, 49, 50, 51, 52, 53, 54, 55, 56, 57, 97, 98, 99, 100, 101, 102]).extract i (i + 1)).data.toList = [Pl.hexB.getD i 0] := by decide +kernel
theorem hexes (b : UInt8) : ((⟨#[92, 120]⟩ : ByteArray) ++ (ByteArray.mk #[48, 49, 50, 51, 52, 53, 54, 55, 56, 57, 97, 98, 99, 100, 101, 102]).extract (b.toNat / 16) (b.toNat / 16 + 1) ++ (ByteArray.mk #[48, 49, 50, 51, 52, 53, 54, 55, 56, 57, 97, 98, 99, 100, 101, 102]).extract (b.toNat % 16) (b.toNat % 16 + 1)).data.toList = [92, 120, Pl.hexB.getD (b.toNat / 16) 0, Pl.hexB.getD (b.toNat % 16) 0] := by
  have hb : b.toNat < 256 := b.toNat_lt
  rw [app_list, app_list, hexAt _ (by omega), hexAt _ (by omega)]
  rfl
theorem belowN {B : Nat} {w w2 : World} (h : Below B w w2) : ∀ n, Below B w (w2.drewN n)
  | 0 => h
  | n + 1 => (belowN h n).drew
/-- the head of the loop after a round -/
theorem next (s : ByteArray) (w w2 : World) (a : Nat) (l c : ByteArray) (n : Int) (hn : n = (Lib.decodeGo (s.extract a s.size)).snd) (hlt : a < s.size)
    (hd : 1 ≤ (Lib.decodeGo (s.extract a s.size)).2 ∧ a + (Lib.decodeGo (s.extract a s.size)).2 ≤ s.size)
    (hrun : Hid (l.data.toList ++ Pl.run s s.size a = 34 :: Pl.run s s.size 0)) (hl : l.size ≤ 4 * a + 1) (hc : Pl.chunk s a = c.data.toList) (hB : Below w.heap.size w w2) :
    (∃ a_1 : Nat, ∃ l_1 : ByteArray, Value.int IntKind.i64 (↑a + n) = Value.int IntKind.i64 ↑a_1 ∧ Value.string (l ++ c) = Value.string l_1 ∧ a_1 ≤ s.size ∧
      Hid (l_1.data.toList ++ Pl.run s s.size a_1 = 34 :: Pl.run s s.size 0) ∧ l_1.size ≤ 4 * a_1 + 1 ∧ Below w.heap.size w w2) ∧
    s.size - (intOf (Value.int IntKind.i64 (↑a + n))).toNat < s.size - (intOf (Value.int IntKind.i64 ↑a)).toNat := by
  subst hn
  have hlen := Pl.chunk_len s a hlt
  have hstep := Pl.run_step s a hlt
  unfold Pl.dec at hlen hstep
  rw [hc] at hlen hstep
  have hcs : c.data.toList.length = c.size := by simp
  refine ⟨⟨a + (Lib.decodeGo (s.extract a s.size)).2, l ++ c, by simp, rfl, hd.2, ?_, by rw [ByteArray.size_append]; omega, hB⟩, ?_⟩
  · refine Lib.hid ?_
    rw [← hrun.out, hstep, app_list, List.append_assoc]
  · simp only [intOf]
    omega

set_option maxHeartbeats 4000000 in
set_option maxRecDepth 100000 in
theorem quote (s : ByteArray) (w : World) (hs : s.size ≤ 17592186044416) (hL : LaidW w) :
    Calls Tryd.prog 14 #[.string s] w fun e w' => e = .returned (.string ⟨(Pl.quote s).toArray⟩) ∧ Below w.heap.size w w' := by
  have HL := Lib.hid hL
  clear hL
  go_enter Tryd.func14, Tryd.ntmps14
  go_wp2
  go_loopw [4, 5] (fun t v wr => ∃ a : Nat, ∃ l : ByteArray, v = .int .i64 a ∧ t = .string l ∧ a ≤ s.size ∧ Hid (l.data.toList ++ Pl.run s s.size a = 34 :: Pl.run s s.size 0) ∧ l.size ≤ 4 * a + 1 ∧ Below w.heap.size w wr) (fun _ v _ => s.size - (intOf v).toNat)
  case atStart => exact ⟨0, ⟨#[34]⟩, rfl, rfl, Nat.zero_le _, rfl, by decide, Below.refl _ _⟩
  case round =>
    obtain ⟨a, l, rfl, rfl, ha, hrun, hl, hB⟩ := hrel
    have hsz := hB.size
    by_cases hlt : a < s.size
    · have hd := Pl.dec_pos s a hlt
      unfold Pl.dec at hd
      have hb : s[a].toNat < 256 := s[a].toNat_lt
      by_cases hlow : 7 ≤ s[a].toNat ∧ s[a].toNat ≤ 13
      · obtain ⟨hl1, hl2⟩ := hlow
        go_wp2_with (go_at_call 20; refine (Tryd.utf8_DecodeRuneInString _ _ (HL.out.below hB).2).mono ?_; rintro e w2 ⟨rfl, hB2⟩; have hB := hB.trans (hB2.mono hsz))
        exact next s w _ a l _ _ rfl hlt hd hrun hl (chunk_low s a hlt hl1 hl2) hB
      · by_cases h34 : s[a].toNat = 34
        · go_wp2_with (go_at_call 20; refine (Tryd.utf8_DecodeRuneInString _ _ (HL.out.below hB).2).mono ?_; rintro e w2 ⟨rfl, hB2⟩; have hB := hB.trans (hB2.mono hsz))
          exact next s w _ a l _ _ rfl hlt hd hrun hl (chunk_self s a hlt (.inl h34)) hB
        · have f34 : ((s[a].toNat : Int) == 34) = false := by rw [beq_eq_false_iff_ne]; omega
          by_cases h92 : s[a].toNat = 92
          · go_wp2_with (go_at_call 20; refine (Tryd.utf8_DecodeRuneInString _ _ (HL.out.below hB).2).mono ?_; rintro e w2 ⟨rfl, hB2⟩; have hB := hB.trans (hB2.mono hsz))
            exact next s w _ a l _ _ rfl hlt hd hrun hl (chunk_self s a hlt (.inr h92)) hB
          · have hm := noMark s[a] hlow h34 h92
            have f92 : ((s[a].toNat : Int) == 92) = false := by rw [beq_eq_false_iff_ne]; omega
            by_cases h32 : s[a].toNat < 32
            · have hc := Pl.chunk_number s a hlt hm (.inl h32)
              go_wp2_with (go_at_call 20; refine (Tryd.utf8_DecodeRuneInString _ _ (HL.out.below hB).2).mono ?_; rintro e w2 ⟨rfl, hB2⟩; have hB := hB.trans (hB2.mono hsz))
              all_goals (go_quiet (fail); go_wp2; exact next s w _ a l _ _ rfl hlt hd hrun hl (hc.trans (hexes s[a]).symm) (belowN hB _))
            · have f32 : decide ((s[a].toNat : Int) < 32) = false := decide_eq_false (by omega)
              by_cases h127 : s[a].toNat = 127
              · have hc := Pl.chunk_number s a hlt hm (.inr (.inl h127))
                go_wp2_with (go_at_call 20; refine (Tryd.utf8_DecodeRuneInString _ _ (HL.out.below hB).2).mono ?_; rintro e w2 ⟨rfl, hB2⟩; have hB := hB.trans (hB2.mono hsz))
                all_goals (go_quiet (fail); go_wp2; exact next s w _ a l _ _ rfl hlt hd hrun hl (hc.trans (by have := hexes s[a]; rw [h127] at this ⊢; exact this.symm)) (belowN hB _))
              · have f127 : ((s[a].toNat : Int) == 127) = false := by rw [beq_eq_false_iff_ne]; omega
                by_cases hr : (Lib.decodeGo (s.extract a s.size)).1 = 65533
                · by_cases h1 : (Lib.decodeGo (s.extract a s.size)).2 = 1
                  · have hc := Pl.chunk_number s a hlt hm (.inr (.inr ⟨hr, h1⟩))
                    go_wp2_with (go_at_call 20; refine (Tryd.utf8_DecodeRuneInString _ _ (HL.out.below hB).2).mono ?_; rintro e w2 ⟨rfl, hB2⟩; have hB := hB.trans (hB2.mono hsz))
                    all_goals (go_quiet (fail); go_wp2; exact next s w _ a l _ _ (by rw [h1]; rfl) hlt hd hrun hl (hc.trans (hexes s[a]).symm) (belowN hB _))
                  · have hc := Pl.chunk_plain s a hlt hm (by simp [h32, h127, hr, h1])
                    have f1 : (((Lib.decodeGo (s.extract a s.size)).2 : Int) == 1) = false := by rw [beq_eq_false_iff_ne]; omega
                    go_wp2_with (go_at_call 20; refine (Tryd.utf8_DecodeRuneInString _ _ (HL.out.below hB).2).mono ?_; rintro e w2 ⟨rfl, hB2⟩; have hB := hB.trans (hB2.mono hsz))
                    exact next s w _ a l _ _ rfl hlt hd hrun hl hc hB
                · have hc := Pl.chunk_plain s a hlt hm (by simp [h32, h127, hr])
                  have fr : (((Lib.decodeGo (s.extract a s.size)).1 : Int) == 65533) = false := by rw [beq_eq_false_iff_ne]; omega
                  go_wp2_with (go_at_call 20; refine (Tryd.utf8_DecodeRuneInString _ _ (HL.out.below hB).2).mono ?_; rintro e w2 ⟨rfl, hB2⟩; have hB := hB.trans (hB2.mono hsz))
                  exact next s w _ a l _ _ rfl hlt hd hrun hl hc hB
    · go_wp2
      go_ret
      refine ⟨?_, hB⟩
      have e0 := hrun.out
      rw [Pl.run_end s a (by omega), List.append_nil] at e0
      rw [Pl.quote, ← e0]
      congr 1
end Go.Proofs.YtcfebjekigcolaaDoor.Rq
