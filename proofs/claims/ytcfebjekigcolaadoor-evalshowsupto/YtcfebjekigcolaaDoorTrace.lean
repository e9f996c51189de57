/-
  monikerref14.Show gives the rows of a trace, shown.
  Conditions: what is shown is at most 2^46 bytes; each text at most 2^44 bytes; the tables that are read hold what their initialisers lay.
-/
import Derived.Test.YtcfebjekigcolaaDoorVals
namespace Go.Proofs.YtcfebjekigcolaaDoor.Tc
open Go Go.Shelf Go.RowKit Go.Proofs Go.Proofs.YtcfebjekigcolaaDoor.Qt Go.Proofs.YtcfebjekigcolaaDoor.PEvalShows Go.Proofs.YtcfebjekigcolaaDoorW.PrintWords Go.Proofs.YtcfebjekigcolaaDoorW.PrintLast Go.Proofs.YtcfebjekigcolaaDoorW.PrintMore
set_option linter.unusedVariables false
set_option linter.unusedSimpArgs false

def sh (x : S28) : List UInt8 := Vl.shown x.f0 x.f1 x.f2 x.f3
/-- the first k entries of a row, shown -/
def rowTo (R : List S28) : Nat → List UInt8
  | 0 => []
  | k + 1 => rowTo R k ++ ((if k = 0 then [] else [32]) ++ sh (R.getD k z28))
/-- the first i rows, shown -/
def toRow (T : List (List S28)) : Nat → List UInt8
  | 0 => []
  | i + 1 => toRow T i ++ (rowTo (T.getD i []) (T.getD i []).length ++ [10])
/-- the trace, shown -/
def all (T : List (List S28)) : List UInt8 := toRow T T.length
structure Ok (T : List (List S28)) : Prop where
  nums : ∀ i k, i < T.length → k < (T.getD i []).length → -9223372036854775808 ≤ ((T.getD i []).getD k z28).f2 ∧ ((T.getD i []).getD k z28).f2 ≤ 9223372036854775807 ∧ ((T.getD i []).getD k z28).f3.size ≤ 17592186044416
  size : (all T).length ≤ 70368744177664
theorem rowTo_mono (R : List S28) (k m : Nat) : (rowTo R k).length ≤ (rowTo R (k + m)).length := by
  induction m with
  | zero => exact Nat.le_refl _
  | succ m ih => rw [show k + (m + 1) = (k + m) + 1 by omega]; simp only [rowTo, List.length_append]; omega
theorem toRow_mono (T : List (List S28)) (i m : Nat) : (toRow T i).length ≤ (toRow T (i + m)).length := by
  induction m with
  | zero => exact Nat.le_refl _
  | succ m ih => rw [show i + (m + 1) = (i + m) + 1 by omega]; simp only [toRow, List.length_append]; omega
theorem Ok.out {T : List (List S28)} (h : Ok T) {i k : Nat} (hi : i < T.length) (hk : k ≤ (T.getD i []).length) : (toRow T i).length + (rowTo (T.getD i []) k).length + 1 ≤ 70368744177664 := by
  have h1 := toRow_mono T (i + 1) (T.length - (i + 1))
  rw [show i + 1 + (T.length - (i + 1)) = T.length by omega] at h1
  have h2 := rowTo_mono (T.getD i []) k ((T.getD i []).length - k)
  rw [show k + ((T.getD i []).length - k) = (T.getD i []).length by omega] at h2
  have h3 := h.size
  unfold all at h3
  simp only [toRow, List.length_append, List.length_cons, List.length_nil] at h1
  omega

theorem rowTo_ge (R : List S28) (k : Nat) : k ≤ (rowTo R k).length + 1 := by
  induction k with
  | zero => omega
  | succ k ih =>
    by_cases h : k = 0
    · omega
    · simp only [rowTo, if_neg h, List.length_append, List.length_cons, List.length_nil]; omega
theorem toRow_ge (T : List (List S28)) (i : Nat) : i ≤ (toRow T i).length := by
  induction i with
  | zero => omega
  | succ i ih => simp only [toRow, List.length_append, List.length_cons, List.length_nil]; omega
theorem size_one (Y : ByteArray) (b : UInt8) : (Y ++ (ByteArray.mk #[b])).size = Y.size + 1 := by rw [ByteArray.size_append]; rfl
theorem round_end {R : List S28} {w w3 : World} {i k : Nat} {T : List (List S28)} {Y Z' : ByteArray} {n : Int} (hn : n = (k : Int) + 1) (hlt : k < R.length) (hY : Z'.data.toList = toRow T i ++ rowTo R (k + 1)) (hB : Below w.heap.size w w3) :
    (∃ k_1 : Nat, ∃ Y_1 : ByteArray, Value.int IntKind.i64 n = Value.int IntKind.i64 ↑k_1 ∧ Value.string Z' = Value.string Y_1 ∧ Hid (Y_1.data.toList = toRow T i ++ rowTo R k_1) ∧ k_1 ≤ R.length ∧ Below w.heap.size w w3) ∧
    R.length - (intOf (Value.int IntKind.i64 n)).toNat < R.length - (intOf (Value.int IntKind.i64 ↑k)).toNat := by
  subst hn
  refine ⟨⟨k + 1, Z', by simp, rfl, Lib.hid hY, by omega, hB⟩, ?_⟩
  simp only [intOf]
  omega

set_option maxHeartbeats 4000000 in
set_option maxRecDepth 100000 in
theorem refShow (T : List (List S28)) (A0 : Option Addr) (c0 : Nat) (w : World) (hr : Kd.C (Kd.slice 28 k28) w A0 T.length T) (hc : T.length ≤ c0) (hT : Ok T) (hL : LaidW w) :
    Calls Tryd.prog 4 #[.slice A0 T.length c0] w fun e w' => e = .returned (.string ⟨(all T).toArray⟩) ∧ Below w.heap.size w w' := by
  have HL := Lib.hid hL
  have HR := Lib.hid hr
  clear hL hr
  go_enter Tryd.func4, Tryd.ntmps4
  go_wp2
  go_loopw [3, 4] (fun t v wr => ∃ i : Nat, ∃ X : ByteArray, v = .int .i64 i ∧ t = .string X ∧ Hid (X.data.toList = toRow T i) ∧ i ≤ T.length ∧ Below w.heap.size w wr) (fun _ v _ => T.length - (intOf v).toNat)
  case atStart => exact ⟨0, _, rfl, rfl, rfl, Nat.zero_le _, Below.refl _ _⟩
  case round =>
    obtain ⟨i, X, rfl, rfl, hX, hi, hB⟩ := hrel
    by_cases hlt : i < T.length
    · obtain ⟨ad, A1, c1, rfl, hx', hl1, hi1'⟩ := at_L5 HR.out (i : Int) (by omega) (by omega)
      have hx : w.cell? (ad.add i) = some (.slice A1 (T.getD i []).length c1) := hx'
      have hi1 : k28.C w A1 (T.getD i []).length (T.getD i []) := hi1'
      have hl1 : (T.getD i []).length ≤ c1 := hl1
      clear hx' hi1'
      have hO : ∀ k, k ≤ (T.getD i []).length → (toRow T i).length + (rowTo (T.getD i []) k).length + 1 ≤ 70368744177664 := fun k hk => hT.out hlt hk
      have hN := fun k hk => hT.nums i k hlt hk
      have hS : toRow T (i + 1) = toRow T i ++ (rowTo (T.getD i []) (T.getD i []).length ++ [10]) := rfl
      generalize T.getD i [] = R at hx hi1 hl1 hO hN hS
      have hS := Lib.hid hS
      have hN := Lib.hid hN
      have hI1 := Lib.hid hi1
      clear hi1
      have hxr : wr.cell? (ad.add i) = some (.slice A1 R.length c1) := (hB.cell (World.block_lt_of_cell? w _ hx)).trans hx
      go_wp2
      go_loopw [3, 5] (fun t v wr => ∃ k : Nat, ∃ Y : ByteArray, v = .int .i64 k ∧ t = .string Y ∧ Hid (Y.data.toList = toRow T i ++ rowTo R k) ∧ k ≤ R.length ∧ Below w.heap.size w wr) (fun _ v _ => R.length - (intOf v).toNat)
      case atStart => exact ⟨0, X, rfl, rfl, Lib.hid (by rw [hX.out]; simp [rowTo]), Nat.zero_le _, hB⟩
      case round =>
        clear hxr hB hX
        obtain ⟨k, Y, rfl, rfl, hY, hk, hB⟩ := hrel
        have hxr : wr.cell? (ad.add i) = some (.slice A1 R.length c1) := (hB.cell (World.block_lt_of_cell? w _ hx)).trans hx
        have hYs : Y.size + 1 ≤ 70368744177664 := by
          have h1 := hO k hk
          have h2 : Y.data.toList.length = Y.size := by simp
          rw [hY.out, List.length_append] at h2
          omega
        have hY2 := size_one Y 10
        have hi3 : i + 1 ≤ 70368744177664 := by
          have h1 := toRow_ge T i
          have h2 := hO 0 (Nat.zero_le _)
          omega
        by_cases hlt2 : k < R.length
        · obtain ⟨ad2, rfl, f0', f1', f2', f3'⟩ := at_T28 hI1.out (k : Int) (by omega) (by omega)
          have hn := hN.out k hlt2
          have hsh : rowTo R (k + 1) = rowTo R k ++ ((if k = 0 then [] else [32]) ++ sh (R.getD k z28)) := rfl
          have f0 : w.cell? (ad2.add (k * 4)) = some (.int .u8 (R.getD k z28).f0) := f0'
          have f1 : w.cell? ⟨(ad2.add (k * 4)).block, (ad2.add (k * 4)).off + 1, none⟩ = some (.bool (R.getD k z28).f1) := f1'
          have f2 : w.cell? ⟨(ad2.add (k * 4)).block, (ad2.add (k * 4)).off + 2, none⟩ = some (.int .i64 (R.getD k z28).f2) := f2'
          have f3 : w.cell? ⟨(ad2.add (k * 4)).block, (ad2.add (k * 4)).off + 3, none⟩ = some (.string (R.getD k z28).f3) := f3'
          clear f0' f1' f2' f3'
          generalize R.getD k z28 = x at hn hsh f0 f1 f2 f3
          replace f0 := (hB.cell (World.block_lt_of_cell? w _ f0)).trans f0
          replace f1 := (hB.cell (World.block_lt_of_cell? w _ f1)).trans f1
          replace f2 := (hB.cell (World.block_lt_of_cell? w _ f2)).trans f2
          replace f3 := (hB.cell (World.block_lt_of_cell? w _ f3)).trans f3
          obtain ⟨hn0, hn1, hn2⟩ := hn
          have hsh := Lib.hid hsh
          have hlen : Y.size + (sh x).length + 1 ≤ 70368744177664 := by
            have h1 := hO (k + 1) (by omega)
            have h2 : Y.data.toList.length = Y.size := by simp
            rw [hY.out, List.length_append] at h2
            rw [hsh.out] at h1
            simp only [List.length_append] at h1
            omega
          obtain ⟨Z, hZ⟩ : ∃ Z : ByteArray, Z = ⟨(sh x).toArray⟩ := ⟨_, rfl⟩
          have hZs : Z.size = (sh x).length := by rw [hZ]; simp [ByteArray.size]
          have hZl : Z.data.toList = sh x := by rw [hZ]
          have hY1 := size_one Y 32
          have hk2 : k + 1 ≤ 70368744177664 := by
            have h1 := rowTo_ge R (k + 1)
            have h2 := hO (k + 1) (by omega)
            omega
          have hZ := Lib.hid hZ
          have hZl := Lib.hid hZl
          by_cases h0 : k = 0
          · have hb0 : decide ((0 : Int) < (k : Int)) = false := decide_eq_false (by omega)
            replace h0 := Lib.hid h0
            go_wp2_with (go_at_call 7; refine (Vl.refShow x.f0 x.f1 x.f2 x.f3 _ hn0 hn1 hn2 (HL.out.below hB)).mono ?_; rintro e w3 ⟨he, hB3⟩; obtain rfl : e = .returned (.string Z) := (by rw [hZ.out]; exact he); have hB := hB.trans (hB3.mono hB.size))
            all_goals first
              | (exfalso; have := h0.out; omega)
              | (refine round_end (Y := Y) rfl hlt2 ?_ hB
                 rw [hsh.out, if_pos h0.out, Rq.app_list, hY.out]
                 simp)
          · go_wp2_with (go_at_call 7; refine (Vl.refShow x.f0 x.f1 x.f2 x.f3 _ hn0 hn1 hn2 (HL.out.below hB)).mono ?_; rintro e w3 ⟨he, hB3⟩; obtain rfl : e = .returned (.string Z) := (by rw [hZ.out]; exact he); have hB := hB.trans (hB3.mono hB.size))
            all_goals first
              | (exfalso; omega)
              | (refine round_end (Y := Y) rfl hlt2 ?_ hB
                 rw [hsh.out, if_neg h0, Rq.app_list, Rq.app_list, hY.out]
                 simp)
        · go_wp2
          have hk3 : k = R.length := by omega
          refine ⟨⟨i + 1, _, by simp, rfl, ?_, by omega, hB⟩, ?_⟩
          · refine Lib.hid ?_
            rw [hS.out, Rq.app_list, hY.out, hk3]
            simp
          · simp only [intOf]
            omega
    · go_wp2
      go_ret
      have hi2 : i = T.length := by omega
      subst hi2
      have e : X = ⟨(all T).toArray⟩ := by
        apply ByteArray.ext
        apply Array.ext'
        rw [hX.out]
        rfl
      rw [← e]
      exact ⟨rfl, hB⟩
end Go.Proofs.YtcfebjekigcolaaDoor.Tc
