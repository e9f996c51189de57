/-
  eval.Show gives the rows of a trace, shown.
  Conditions: what is shown is at most 2^46 bytes; each text at most 2^44 bytes; the tables that are read hold what their initialisers lay.
-/
import Derived.Test.YtcfebjekigcolaaDoorTrace
import Derived.Test.YtcfebjekigcolaaDoorBuilderZ
namespace Go.Proofs.YtcfebjekigcolaaDoor.Tc
open Go Go.Shelf Go.RowKit Go.Proofs Go.Proofs.YtcfebjekigcolaaDoor.Qt Go.Proofs.YtcfebjekigcolaaDoor.PEvalShows Go.Proofs.YtcfebjekigcolaaDoorW.PrintWords Go.Proofs.YtcfebjekigcolaaDoorW.PrintLast Go.Proofs.YtcfebjekigcolaaDoorW.PrintMore
set_option linter.unusedVariables false
set_option linter.unusedSimpArgs false

theorem _root_.Go.Proofs.YtcfebjekigcolaaDoor.Vl.cells_of {w2 : World} {z : Nat} {v0 v1 v2 v3 : Value} (hb : w2.heap[z]? = some (.cells #[v0, v1, v2, v3] 28 (0, 0))) :
    w2.cell? ⟨z, 0, none⟩ = some v0 ∧ w2.cell? ⟨z, 1, none⟩ = some v1 ∧ w2.cell? ⟨z, 2, none⟩ = some v2 ∧ w2.cell? ⟨z, 3, none⟩ = some v3 := by
  refine ⟨?_, ?_, ?_, ?_⟩ <;> rw [Lib.cell_of_heap hb] <;> rfl
theorem shz (x : S28) : (ByteArray.mk (Vl.shown x.f0 x.f1 x.f2 x.f3).toArray).size = (sh x).length := by simp [ByteArray.size, sh]
theorem bc_len (l : List UInt8) : (Lib.byteCells l).length = l.length := by simp [Lib.byteCells]

theorem sc_bc (l : List UInt8) : Lib.strCells ⟨l.toArray⟩ = Lib.byteCells l := rfl
theorem round_end2 {R : List S28} {w w3 : World} {i k : Nat} {T : List (List S28)} {n : Int} {m c : List UInt8} {cells : List Value} (hn : n = (k : Int) + 1) (hlt : k < R.length) (hm : m = toRow T i ++ rowTo R k) (hc : rowTo R (k + 1) = rowTo R k ++ c)
    (hI : Lib.IsBuilder 34 5 w.heap.size w.heap.size (Lib.byteCells m ++ cells) w3) (hcells : cells = Lib.byteCells c) (hB : Below w.heap.size w w3) :
    (∃ k_1 : Nat, ∃ m : List UInt8, Value.int IntKind.i64 n = Value.int IntKind.i64 ↑k_1 ∧ Hid (m = toRow T i ++ rowTo R k_1) ∧ k_1 ≤ R.length ∧ Lib.IsBuilder 34 5 w.heap.size w.heap.size (Lib.byteCells m) w3 ∧ Below w.heap.size w w3) ∧
    R.length - (intOf (Value.int IntKind.i64 n)).toNat < R.length - (intOf (Value.int IntKind.i64 ↑k)).toNat := by
  subst hn
  refine ⟨⟨k + 1, m ++ c, by simp, Lib.hid ?_, by omega, ?_, hB⟩, ?_⟩
  · rw [hm, hc, List.append_assoc]
  · rw [byteCells_app, ← hcells]; exact hI
  · simp only [intOf]
    omega

set_option maxHeartbeats 4000000 in
set_option maxRecDepth 100000 in
theorem ownShow (T : List (List S28)) (A0 : Option Addr) (c0 : Nat) (w : World) (hr : Kd.C (Kd.slice 28 k28) w A0 T.length T) (hc : T.length ≤ c0) (hT : Ok T) (hL : LaidW w) :
    Calls Tryd.prog 5 #[.slice A0 T.length c0] w fun e w' => e = .returned (.string ⟨(all T).toArray⟩) ∧ Below w.heap.size w w' := by
  have HL := Lib.hid hL
  have HR := Lib.hid hr
  clear hL hr
  have hT1 : T.length ≤ 70368744177664 := by have := toRow_ge T T.length; have := hT.size; unfold all at this; omega
  go_enter Tryd.func5, Tryd.ntmps5
  go_wp2
  go_loopw [10] (fun v wr => ∃ i : Nat, ∃ l : List UInt8, v = .int .i64 i ∧ Hid (l = toRow T i) ∧ i ≤ T.length ∧ Lib.IsBuilder 34 5 w.heap.size w.heap.size (Lib.byteCells l) wr ∧ Below w.heap.size w wr) (fun v _ => T.length - (intOf v).toNat)
  case atStart => exact ⟨0, [], rfl, rfl, Nat.zero_le _, Lib.fresh_isBuilder 34 5 w, (Below.refl _ _).alloc (Nat.le_refl _) _⟩
  case round =>
    obtain ⟨i, l, rfl, hl, hi, hI, hB⟩ := hrel
    have hsz := hB.size
    by_cases hlt : i < T.length
    · obtain ⟨ad, A1, c1, rfl, hx', hl1, hi1'⟩ := at_L5 HR.out (i : Int) (by omega) (by omega)
      have hx : w.cell? (ad.add i) = some (.slice A1 (T.getD i []).length c1) := hx'
      have hi1 : k28.C w A1 (T.getD i []).length (T.getD i []) := hi1'
      have hl1 : (T.getD i []).length ≤ c1 := hl1
      clear hx' hi1'
      have hO : ∀ k, k ≤ (T.getD i []).length → (toRow T i).length + (rowTo (T.getD i []) k).length + 1 ≤ 70368744177664 := fun k hk => hT.out hlt hk
      have hN := fun k hk => hT.nums i k hlt hk
      have hS : toRow T (i + 1) = toRow T i ++ (rowTo (T.getD i []) (T.getD i []).length ++ [10]) := rfl
      generalize T.getD i [] = R at hx hi1 hl1 hO hN hS
      have hS := Lib.hid hS
      have hN := Lib.hid hN
      have hI1 := Lib.hid hi1
      clear hi1
      have hR1 : R.length ≤ 70368744177664 := by have := rowTo_ge R R.length; have := hO R.length (Nat.le_refl _); omega
      have hxr : wr.cell? (ad.add i) = some (.slice A1 R.length c1) := (hB.cell (World.block_lt_of_cell? w _ hx)).trans hx
      go_wp2
      go_loopw [16] (fun v wr => ∃ k : Nat, ∃ m : List UInt8, v = .int .i64 k ∧ Hid (m = toRow T i ++ rowTo R k) ∧ k ≤ R.length ∧ Lib.IsBuilder 34 5 w.heap.size w.heap.size (Lib.byteCells m) wr ∧ Below w.heap.size w wr) (fun v _ => R.length - (intOf v).toNat)
      case atStart => exact ⟨0, l, rfl, Lib.hid (by rw [hl.out]; simp [rowTo]), Nat.zero_le _, hI, hB⟩
      case round =>
        clear hxr hB hl hI hsz
        obtain ⟨k, m, rfl, hm, hk, hI, hB⟩ := hrel
        have hsz := hB.size
        have hms : m.length + 1 ≤ 70368744177664 := by
          have h1 := hO k hk
          rw [hm.out, List.length_append]
          omega
        by_cases hlt2 : k < R.length
        · obtain ⟨ad2, rfl, f0', f1', f2', f3'⟩ := at_T28 hI1.out (k : Int) (by omega) (by omega)
          have hn := hN.out k hlt2
          have hsh : rowTo R (k + 1) = rowTo R k ++ ((if k = 0 then [] else [32]) ++ sh (R.getD k z28)) := rfl
          have f0 : w.cell? (ad2.add (k * 4)) = some (.int .u8 (R.getD k z28).f0) := f0'
          have f1 : w.cell? ⟨(ad2.add (k * 4)).block, (ad2.add (k * 4)).off + 1, none⟩ = some (.bool (R.getD k z28).f1) := f1'
          have f2 : w.cell? ⟨(ad2.add (k * 4)).block, (ad2.add (k * 4)).off + 2, none⟩ = some (.int .i64 (R.getD k z28).f2) := f2'
          have f3 : w.cell? ⟨(ad2.add (k * 4)).block, (ad2.add (k * 4)).off + 3, none⟩ = some (.string (R.getD k z28).f3) := f3'
          clear f0' f1' f2' f3'
          generalize R.getD k z28 = x at hn hsh f0 f1 f2 f3
          replace f0 := (hB.cell (World.block_lt_of_cell? w _ f0)).trans f0
          replace f1 := (hB.cell (World.block_lt_of_cell? w _ f1)).trans f1
          replace f2 := (hB.cell (World.block_lt_of_cell? w _ f2)).trans f2
          replace f3 := (hB.cell (World.block_lt_of_cell? w _ f3)).trans f3
          obtain ⟨hn0, hn1, hn2⟩ := hn
          have hsh := Lib.hid hsh
          have hlen : m.length + (sh x).length + 1 ≤ 70368744177664 := by
            have h1 := hO (k + 1) (by omega)
            rw [hsh.out] at h1
            rw [hm.out, List.length_append]
            simp only [List.length_append] at h1
            omega
          obtain ⟨hz1, hz2⟩ := Bld.own_new hI (.cells #[.int .u8 x.f0, .bool x.f1, .int .i64 x.f2, .string x.f3] 28)
          have hIc := hI.below (Vl.below_alloc wr (.cells #[.int .u8 x.f0, .bool x.f1, .int .i64 x.f2, .string x.f3] 28))
          have hBc := hB.trans ((Vl.below_alloc wr (.cells #[.int .u8 x.f0, .bool x.f1, .int .i64 x.f2, .string x.f3] 28)).mono hB.size)
          by_cases h0 : k = 0
          · have hb0 : decide ((0 : Int) < (k : Int)) = false := decide_eq_false (by omega)
            replace h0 := Lib.hid h0
            go_wp2_with (first | (go_at_call 8; (refine (Bld.writeByteZ w.heap.size w.heap.size _ _ _ hIc (by rw [bc_len]; omega) hBc.size wr.heap.size (by simp) hz1 hz2).mono ?_); rintro e w2 ⟨rfl, hI2, hB2, hz⟩; have hcells := Vl.cells_of (hz.trans (heap_alloc_new wr _)); obtain ⟨d0, d1, d2, d3⟩ := hcells; have hIc := hI2; have hBc := hBc.trans hB2) | (go_at_call 10; (refine (Vl.ownShow x.f0 x.f1 x.f2 x.f3 _ hn0 hn1 hn2 (HL.out.below hBc)).mono ?_); rintro e w3 ⟨rfl, hB3⟩; have hIc := hIc.below hB3; have hBc := hBc.trans (hB3.mono hBc.size)) | (go_at_call 9; (refine (Bld.writeString w.heap.size w.heap.size _ _ _ hIc (by have hq : (ByteArray.mk (Vl.shown x.f0 x.f1 x.f2 x.f3).toArray).size = (sh x).length := shz x; simp only [List.length_append, bc_len, List.length_cons, List.length_nil]; omega) hBc.size).mono ?_); rintro e w4 ⟨rfl, hI4, hB4⟩; have hIc := hI4; have hBc := hBc.trans hB4))
            all_goals first
              | (exfalso; have := h0.out; omega)
              | (refine round_end2 rfl hlt2 hm.out hsh.out hIc ?_ hBc
                 rw [if_pos h0.out]
                 rfl)
          · go_wp2_with (first | (go_at_call 8; (refine (Bld.writeByteZ w.heap.size w.heap.size _ _ _ hIc (by rw [bc_len]; omega) hBc.size wr.heap.size (by simp) hz1 hz2).mono ?_); rintro e w2 ⟨rfl, hI2, hB2, hz⟩; have hcells := Vl.cells_of (hz.trans (heap_alloc_new wr _)); obtain ⟨d0, d1, d2, d3⟩ := hcells; have hIc := hI2; have hBc := hBc.trans hB2) | (go_at_call 10; (refine (Vl.ownShow x.f0 x.f1 x.f2 x.f3 _ hn0 hn1 hn2 (HL.out.below hBc)).mono ?_); rintro e w3 ⟨rfl, hB3⟩; have hIc := hIc.below hB3; have hBc := hBc.trans (hB3.mono hBc.size)) | (go_at_call 9; (refine (Bld.writeString w.heap.size w.heap.size _ _ _ hIc (by have hq : (ByteArray.mk (Vl.shown x.f0 x.f1 x.f2 x.f3).toArray).size = (sh x).length := shz x; simp only [List.length_append, bc_len, List.length_cons, List.length_nil]; omega) hBc.size).mono ?_); rintro e w4 ⟨rfl, hI4, hB4⟩; have hIc := hI4; have hBc := hBc.trans hB4))
            all_goals first
              | (exfalso; omega)
              | (refine round_end2 rfl hlt2 hm.out hsh.out (by rw [List.append_assoc] at hIc; exact hIc) ?_ hBc
                 rw [if_neg h0]
                 rfl)
        · go_wp2_with (go_at_call 8; refine (Bld.writeByte w.heap.size w.heap.size _ 10 _ hI (by rw [bc_len]; omega) hB.size).mono ?_; rintro e w2 ⟨rfl, hI2, hB2⟩)
          have hk3 : k = R.length := by omega
          refine ⟨⟨i + 1, m ++ [10], by simp, ?_, by omega, ?_, hB.trans hB2⟩, ?_⟩
          · refine Lib.hid ?_
            rw [hS.out, hm.out, hk3]
            simp
          · rw [byteCells_app, byteCells_one]; exact hI2
          · simp only [intOf]
            omega
    · go_wp2_with (go_at_call 11; refine (Tryd.Builder_String_any w.heap.size w.heap.size l _ hI hB.size).mono ?_; rintro e w3 ⟨rfl, hB3⟩)
      go_ret
      have hi2 : i = T.length := by omega
      subst hi2
      have e : l = all T := hl.out
      rw [← e]
      exact ⟨rfl, hB.trans hB3⟩
end Go.Proofs.YtcfebjekigcolaaDoor.Tc
