/-
  The values of both sides: which are right, and how they are shown.
  Conditions: a value's text is at most 2^44 bytes; the tables that are read hold what their initialisers lay.
-/
import Derived.Test.YtcfebjekigcolaaDoorRefQuote
import Derived.Test.YtcfebjekigcolaaDoorRightx
namespace Go.Proofs.YtcfebjekigcolaaDoor.Vl
open Go Go.Shelf Go.RowKit Go.Proofs Go.Proofs.YtcfebjekigcolaaDoor.Qt
set_option linter.unusedVariables false
set_option linter.unusedSimpArgs false

/-- is a value one? -/
def right (k : Int) (b : Bool) (n : Int) (t : ByteArray) : Bool := (k == 1 && n == 0 && t.toList.isEmpty) || (k == 2 && !b && t.toList.isEmpty) || (k == 3 && !b && n == 0)
/-- a value, shown -/
def shown (k : Int) (b : Bool) (n : Int) (t : ByteArray) : List UInt8 :=
  if right k b n t = false then [] else if k = 1 then (if b = true then [116, 114, 117, 101] else [102, 97, 108, 115, 101]) else if k = 2 then Lib.itoa n else Pl.quote t

theorem below_alloc (w : World) (o : Obj) : Below w.heap.size w (w.alloc o) := (Below.refl _ _).alloc (Nat.le_refl _) o

theorem cells4 {w w2 : World} {v0 v1 v2 v3 : Value} (hB : Below (w.alloc (.cells #[v0, v1, v2, v3] 28)).heap.size (w.alloc (.cells #[v0, v1, v2, v3] 28)) w2) :
    w2.cell? ⟨w.heap.size, 0, none⟩ = some v0 ∧ w2.cell? ⟨w.heap.size, 1, none⟩ = some v1 ∧ w2.cell? ⟨w.heap.size, 2, none⟩ = some v2 ∧ w2.cell? ⟨w.heap.size, 3, none⟩ = some v3 := by
  have hb : w2.heap[w.heap.size]? = some (.cells #[v0, v1, v2, v3] 28 (0, 0)) := (hB.block _ (by simp)).trans (heap_alloc_new w _)
  refine ⟨?_, ?_, ?_, ?_⟩ <;> rw [Lib.cell_of_heap hb] <;> rfl

set_option maxHeartbeats 1000000 in
set_option maxRecDepth 100000 in
theorem refRight (k : Int) (b : Bool) (n : Int) (t : ByteArray) (w : World) : Calls Tryd.prog 12 #[.agg #[.int .u8 k, .bool b, .int .i64 n, .string t]] w fun e w' => e = .returned (.bool (right k b n t)) ∧ Below w.heap.size w w' := by
  go_enter Tryd.func12, Tryd.ntmps12
  go_wp2
  all_goals go_ret
  all_goals refine ⟨?_, below_alloc _ _⟩
  all_goals (simp_all [right]; done)

theorem ownRight_f (k : Int) (b : Bool) (n : Int) (t : ByteArray) : PEvalShows.consts_right.f k b n t = some (right k b n t) := by
  have hnil : ∀ x : ByteArray, (x.toList == (ByteArray.mk #[]).toList) = x.toList.isEmpty := by
    intro x
    rw [show (ByteArray.mk #[]).toList = [] from by simp [ByteArray.toList, ByteArray.toList.loop, ByteArray.size]]
    cases x.toList <;> rfl
  unfold PEvalShows.consts_right.f
  simp only [PEvalShows.consts_truth.f, PEvalShows.consts_number.f, PEvalShows.consts_words.f, Option.bind_some, hnil]
  by_cases h1 : k = 1
  · subst h1; simp [right]
  · by_cases h2 : k = 2
    · subst h2; simp [right]
    · by_cases h3 : k = 3
      · subst h3; simp [right]
      · simp [right, h1, h2, h3]
theorem ownRight (k : Int) (b : Bool) (n : Int) (t : ByteArray) (w : World) : Calls Tryd.prog 16 #[.agg #[.int .u8 k, .bool b, .int .i64 n, .string t]] w fun e w' => e = .returned (.bool (right k b n t)) ∧ Below w.heap.size w w' :=
  PEvalShows.consts_right.calls k b n t _ w (ownRight_f k b n t)

set_option maxHeartbeats 4000000 in
set_option maxRecDepth 100000 in
theorem refShow (k : Int) (b : Bool) (n : Int) (t : ByteArray) (w : World) (hn0 : -9223372036854775808 ≤ n) (hn1 : n ≤ 9223372036854775807) (ht : t.size ≤ 17592186044416) (hL : LaidW w) :
    Calls Tryd.prog 7 #[.agg #[.int .u8 k, .bool b, .int .i64 n, .string t]] w fun e w' => e = .returned (.string ⟨(shown k b n t).toArray⟩) ∧ Below w.heap.size w w' := by
  have HL := Lib.hid hL
  clear hL
  go_enter Tryd.func7, Tryd.ntmps7
  go_wp2_with (first | (go_at_call 12; refine (refRight k b n t _).mono ?_; rintro e w2 ⟨rfl, hB2⟩; obtain ⟨c0, c1, c2, c3⟩ := cells4 hB2; have hB := (below_alloc w _).trans (hB2.mono (below_alloc w _).size)) | (go_at_call 13; (refine (Tryd.strconv_FormatInt_10 n hn0 hn1 _ (HL.out.below hB).1).mono ?_); rintro e w3 ⟨rfl, q, os, rfl⟩) | (go_at_call 14; (refine (Rq.quote t _ ht (HL.out.below hB)).mono ?_); rintro e w3 ⟨rfl, hB3⟩))
  all_goals go_ret
  · exact ⟨by simp_all [shown], hB⟩
  · refine ⟨?_, hB.trans ((Lib.below_grow w2.heap.size w2 (Nat.le_refl _) q os).mono hB.size)⟩
    have h2 : k = 2 := by simp_all
    subst h2
    simp_all [shown]
  · refine ⟨?_, hB.trans (hB3.mono hB.size)⟩
    have h2 : k = 3 := by simp_all
    subst h2
    simp_all [shown]
  · refine ⟨?_, hB⟩
    have h2 : k = 1 := by simp_all [right]
    subst h2
    simp_all [shown]
  · refine ⟨?_, hB⟩
    have h2 : k = 1 := by simp_all [right]
    subst h2
    simp_all [shown]

set_option maxHeartbeats 4000000 in
set_option maxRecDepth 100000 in
theorem ownShow (k : Int) (b : Bool) (n : Int) (t : ByteArray) (w : World) (hn0 : -9223372036854775808 ≤ n) (hn1 : n ≤ 9223372036854775807) (ht : t.size ≤ 17592186044416) (hL : LaidW w) :
    Calls Tryd.prog 10 #[.agg #[.int .u8 k, .bool b, .int .i64 n, .string t]] w fun e w' => e = .returned (.string ⟨(shown k b n t).toArray⟩) ∧ Below w.heap.size w w' := by
  have HL := Lib.hid hL
  clear hL
  go_enter Tryd.func10, Tryd.ntmps10
  go_wp2_with (first | (go_at_call 16; refine (ownRight k b n t _).mono ?_; rintro e w2 ⟨rfl, hB2⟩; obtain ⟨c0, c1, c2, c3⟩ := cells4 hB2; have hB := (below_alloc w _).trans (hB2.mono (below_alloc w _).size)) | (go_at_call 13; refine (Tryd.strconv_FormatInt_10 n hn0 hn1 _ (HL.out.below hB).1).mono ?_; rintro e w3 ⟨rfl, q, os, rfl⟩) | (go_at_call 18; refine (Qt.quote t _ ht (HL.out.below hB)).mono ?_; rintro e w3 ⟨rfl, hB3⟩) | (go_at_call 17; (refine (Tryd.strconv_FormatBool b _).mono ?_); rintro e w3 ⟨rfl, hB3⟩))
  all_goals go_ret
  · exact ⟨by simp_all [shown], hB⟩
  · refine ⟨?_, hB⟩
    have h2 : k = 1 := by simp_all
    subst h2
    have e1 : "false".toByteArray.data = #[102, 97, 108, 115, 101] := by decide +kernel
    have e2 : "true".toByteArray.data = #[116, 114, 117, 101] := by decide +kernel
    cases b <;> simp_all [shown, Lib.formatBool]
  · refine ⟨?_, hB.trans ((Lib.below_grow w2.heap.size w2 (Nat.le_refl _) q os).mono hB.size)⟩
    have h2 : k = 2 := by simp_all
    subst h2
    simp_all [shown]
  · refine ⟨?_, hB.trans (hB3.mono hB.size)⟩
    have h2 : k = 3 := by simp_all [right]
    subst h2
    simp_all [shown]
end Go.Proofs.YtcfebjekigcolaaDoor.Vl
