/-
  What the law's argument reads as: a list of rows of values; and how great it is.
  Conditions: none.
-/
import Derived.Test.YtcfebjekigcolaaDoorBounds
import Derived.Test.YtcfebjekigcolaaDoorRows
import Derived.Deep.Slices
import Derived.OpenShut
namespace Go.Proofs.YtcfebjekigcolaaDoor.Ar
open Go Go.Deep Go.ChangeShapes Go.WideShapes Go.RowKit Go.Proofs Go.Proofs.YtcfebjekigcolaaDoor.PEvalShows Go.Proofs.YtcfebjekigcolaaDoorW.PrintWords Go.Proofs.YtcfebjekigcolaaDoorW.PrintLast Go.Proofs.YtcfebjekigcolaaDoorW.PrintMore
set_option linter.unusedVariables false
set_option linter.unusedSimpArgs false

theorem bulk_pos {H : Type} (d : DataW H) : 1 ≤ Rows.uptoBulk d := by
  cases d with
  | lit l => cases l <;> simp [Rows.uptoBulk]
  | _ => simp [Rows.uptoBulk]
theorem bulkAll_append {H : Type} (a b : List (DataW H)) : Rows.uptoBulkAll (a ++ b) = Rows.uptoBulkAll a + Rows.uptoBulkAll b := by
  induction a with
  | nil => simp [Rows.uptoBulkAll]
  | cons d a ih => simp only [List.cons_append, Rows.uptoBulkAll, ih]; omega
theorem bulkAll_mem {H : Type} (a : List (DataW H)) (d : DataW H) (h : d ∈ a) : Rows.uptoBulk d ≤ Rows.uptoBulkAll a := by
  induction a with
  | nil => cases h
  | cons x a ih =>
    simp only [Rows.uptoBulkAll]
    rcases List.mem_cons.1 h with rfl | h
    · omega
    · have := ih h; omega
theorem bulkAll_range {H : Type} (D : Nat → DataW H) (n k : Nat) (h : k < n) : Rows.uptoBulk (D k) ≤ Rows.uptoBulkAll ((List.range n).map D) :=
  bulkAll_mem _ _ (List.mem_map.2 ⟨k, List.mem_range.2 h, rfl⟩)
theorem bulkAll_succ {H : Type} (D : Nat → DataW H) (n : Nat) : Rows.uptoBulkAll ((List.range (n + 1)).map D) = Rows.uptoBulkAll ((List.range n).map D) + Rows.uptoBulk (D n) := by
  rw [List.range_succ, List.map_append, bulkAll_append]
  simp [Rows.uptoBulkAll]
theorem bulkAll_len {H : Type} (D : Nat → DataW H) (n : Nat) : n ≤ Rows.uptoBulkAll ((List.range n).map D) := by
  induction n with
  | zero => omega
  | succ n ih => have := bulk_pos (D n); rw [bulkAll_succ]; omega
theorem bulkAll_count {H : Type} (D : Nat → DataW H) (T : List (List S28)) (n : Nat) (h : ∀ i, i < n → (T.getD i []).length + 1 ≤ Rows.uptoBulk (D i)) : Tc.count T n + n ≤ Rows.uptoBulkAll ((List.range n).map D) := by
  induction n with
  | zero => simp [Tc.count, Rows.uptoBulkAll]
  | succ n ih =>
    have h1 := ih (fun i hi => h i (by omega))
    have h2 := h n (by omega)
    rw [bulkAll_succ]
    simp only [Tc.count]
    omega
instance : Inhabited S28 := ⟨z28⟩

section
variable {H : Type} {enc : TypeId × Value → H} {w : World} {base : Nat} {spare : Nat → Bool} {held : Bool}

theorem val_open {fuel : Nat} {cs : List Value} {x : DataW H × List MemPlace} (hl : cs.length = 4) (h : DataW.trod enc Tryd.prog w base spare held fuel 28 cs = some x) :
    ∃ v : S28, cs = [.int .u8 v.f0, .bool v.f1, .int .i64 v.f2, .string v.f3] ∧ (Lit.int .i64 v.f2).wf = true ∧ v.f3.size + 1 ≤ Rows.uptoBulk x.1 := by
  obtain ⟨xs, n, rfl, rfl, _, hx, hf⟩ := DataW.trod_struct Tryd.underlying28 h
  match cs, hl, xs, hx with
  | [c0, c1, c2, c3], _, [y0, y1, y2, y3], _ =>
    have g0 := hf 0 _ rfl
    have g1 := hf 1 _ rfl
    have g2 := hf 2 _ rfl
    have g3 := hf 3 _ rfl
    have s26 : Tryd.prog.cellsOf 26 = 1 := by kernel_rfl
    have s4 : Tryd.prog.cellsOf 4 = 1 := by kernel_rfl
    have s2 : Tryd.prog.cellsOf 2 = 1 := by kernel_rfl
    have s9 : Tryd.prog.cellsOf 9 = 1 := by kernel_rfl
    simp [s26, s4, s2, s9] at g0 g1 g2 g3
    obtain ⟨n0, e0, rfl, _⟩ := DataW.trod_int Tryd.underlying26 g0
    obtain ⟨b1, e1, rfl⟩ := DataW.trod_bool Tryd.underlying4 g1
    obtain ⟨n2, e2, rfl, h2⟩ := DataW.trod_int Tryd.underlying2 g2
    obtain ⟨s3, e3, rfl, _⟩ := DataW.trod_string Tryd.underlying9 g3
    injection e0 with e0
    injection e1 with e1
    injection e2 with e2
    injection e3 with e3
    subst e0 e1 e2 e3
    refine ⟨⟨n0, b1, n2, s3⟩, rfl, h2, ?_⟩
    simp [Rows.uptoBulk, Rows.uptoBulkAll]
    omega

/-- one row -/
theorem row_open {fuel : Nat} {cs : List Value} {x : DataW H × List MemPlace} (h : DataW.trod enc Tryd.prog w base spare held fuel 23 cs = some x) :
    ∃ A R c, cs = [.slice A R.length c] ∧ R.length ≤ c ∧ k28.C w A R.length R ∧ R.length + 1 ≤ Rows.uptoBulk x.1 ∧ ∀ k, k < R.length → (Lit.int .i64 (R.getD k z28).f2).wf = true ∧ (R.getD k z28).f3.size + 1 ≤ Rows.uptoBulk x.1 := by
  rcases open_slice Tryd.underlying23 h with ⟨rfl, rfl⟩ | ⟨a, len, cap, m, n, D, Pl, rfl, hb, hl, hm, hmm, rfl, hx⟩
  · exact ⟨none, [], 0, rfl, Nat.le_refl _, ⟨rfl, by simp, fun h => absurd h (by simp)⟩, by simp [Rows.uptoBulk], fun k hk => absurd hk (by simp)⟩
  · have hlm : len ≤ m := by rw [hmm]; split <;> omega
    have s28 : Tryd.prog.cellsOf 28 = 4 := by kernel_rfl
    rw [s28] at hx
    obtain ⟨V, hV⟩ := choose_lt (α := S28) (n := m) (p := fun i v => w.cells? base (a.add (i * 4)) 4 = some [.int .u8 v.f0, .bool v.f1, .int .i64 v.f2, .string v.f3] ∧ (Lit.int .i64 v.f2).wf = true ∧ v.f3.size + 1 ≤ Rows.uptoBulk (D i)) (fun i hi => by
      obtain ⟨cs', h1, h2⟩ := hx i hi
      obtain ⟨_, hlen, _⟩ := World.cells?_some h1
      obtain ⟨v, rfl, h3, h4⟩ := val_open hlen h2
      exact ⟨v, h1, h3, h4⟩)
    have hlenR : ((List.range len).map V).length = len := by simp
    refine ⟨some a, (List.range len).map V, cap, by rw [hlenR], by rw [hlenR]; exact hl, ⟨rfl, by rw [hlenR]; unfold maxLen at hm; omega, fun _ => ⟨a, rfl, fun j p hj => ?_⟩⟩, ?_, fun k hk => ?_⟩
    · have hjl : j < len := by
        rcases Nat.lt_or_ge j len with h' | h'
        · exact h'
        · rw [List.getElem?_eq_none (by rw [hlenR]; exact h')] at hj; cases hj
      have hp : p = V j := by simp [hjl] at hj; exact hj.symm
      subst hp
      obtain ⟨h1, _, _⟩ := hV j (by omega)
      obtain ⟨_, hlen, hcell⟩ := World.cells?_some h1
      refine ⟨_, rfl, k28_mk w _, fun i u hu => ?_⟩
      have hi4 : i < 4 := by
        rcases Nat.lt_or_ge i 4 with h' | h'
        · exact h'
        · rw [List.getElem?_eq_none (by simpa using h')] at hu; cases hu
      have := hcell i hi4
      rw [Deep.add_add] at this
      show w.cell? (a.add (j * 4 + i)) = some u
      rw [this, hu]
    · rw [hlenR]
      simp only [Rows.uptoBulk]
      have := bulkAll_len D len
      omega
    · rw [hlenR] at hk
      have hV' := hV k (by omega)
      have hg : ((List.range len).map V).getD k z28 = V k := by simp [List.getD_eq_getElem?_getD, hk]
      rw [hg]
      refine ⟨hV'.2.1, ?_⟩
      have := bulkAll_range D len k hk
      simp only [Rows.uptoBulk]
      omega
/-- the argument -/
theorem arg_open {fuel : Nat} {cs : List Value} {x : DataW H × List MemPlace} (h : DataW.trod enc Tryd.prog w base spare held fuel 22 cs = some x) (hbulk : Rows.uptoBulk x.1 ≤ 1048576) :
    ∃ A T c, cs = [.slice A T.length c] ∧ T.length ≤ c ∧ Kd.C (Kd.slice 28 k28) w A T.length T ∧ T.length ≤ 1048576 ∧ Tc.count T T.length ≤ 1048576 ∧ ∀ i k, i < T.length → k < (T.getD i []).length → Tc.Small ((T.getD i []).getD k z28) := by
  rcases open_slice Tryd.underlying22 h with ⟨rfl, rfl⟩ | ⟨a, len, cap, m, n, D, Pl, rfl, hb, hl, hm, hmm, rfl, hx⟩
  · exact ⟨none, [], 0, rfl, Nat.le_refl _, ⟨rfl, by simp, fun h => absurd h (by simp)⟩, by simp, by simp [Tc.count], fun i k hi => absurd hi (by simp)⟩
  · have hlm : len ≤ m := by rw [hmm]; split <;> omega
    have s23 : Tryd.prog.cellsOf 23 = 1 := by kernel_rfl
    rw [s23] at hx
    simp only [Rows.uptoBulk] at hbulk
    obtain ⟨V, hV⟩ := choose_lt (α := List S28) (n := m) (p := fun i R => ∃ A c, w.cells? base (a.add (i * 1)) 1 = some [.slice A R.length c] ∧ R.length ≤ c ∧ k28.C w A R.length R ∧ R.length + 1 ≤ Rows.uptoBulk (D i) ∧ ∀ k, k < R.length → (Lit.int .i64 (R.getD k z28).f2).wf = true ∧ (R.getD k z28).f3.size + 1 ≤ Rows.uptoBulk (D i)) (fun i hi => by
      obtain ⟨cs', h1, h2⟩ := hx i hi
      obtain ⟨A, R, c, rfl, h3⟩ := row_open h2
      exact ⟨R, A, c, h1, h3⟩)
    have hlenT : ((List.range len).map V).length = len := by simp
    have hget : ∀ i, i < len → ((List.range len).map V).getD i [] = V i := by
      intro i hi
      simp [List.getD_eq_getElem?_getD, hi]
    refine ⟨some a, (List.range len).map V, cap, by rw [hlenT], by rw [hlenT]; exact hl, ⟨rfl, by rw [hlenT]; unfold maxLen at hm; omega, fun _ => ⟨a, rfl, fun j p hj => ?_⟩⟩, ?_, ?_, fun i k hi hk => ?_⟩
    · have hjl : j < len := by
        rcases Nat.lt_or_ge j len with h' | h'
        · exact h'
        · rw [List.getElem?_eq_none (by rw [hlenT]; exact h')] at hj; cases hj
      have hp : p = V j := by simp [hjl] at hj; exact hj.symm
      subst hp
      obtain ⟨A, c, h1, h2, h3, _⟩ := hV j (by omega)
      obtain ⟨_, hlen, hcell⟩ := World.cells?_some h1
      refine ⟨[.slice A (V j).length c], rfl, ⟨A, c, rfl, h2, h3⟩, fun i u hu => ?_⟩
      have hi1 : i < 1 := by
        rcases Nat.lt_or_ge i 1 with h' | h'
        · exact h'
        · rw [List.getElem?_eq_none (by simpa using h')] at hu; cases hu
      have := hcell i hi1
      rw [Deep.add_add] at this
      show w.cell? (a.add (j * 1 + i)) = some u
      rw [this, hu]
    · rw [hlenT]
      have := bulkAll_len D len
      omega
    · rw [hlenT]
      have := bulkAll_count D ((List.range len).map V) len (fun i hi => by rw [hget i hi]; exact (hV i (by omega)).choose_spec.choose_spec.2.2.2.1)
      omega
    · rw [hlenT] at hi
      rw [hget i hi] at hk ⊢
      obtain ⟨A, c, _, _, _, _, h5⟩ := hV i (by omega)
      obtain ⟨h6, h7⟩ := h5 k hk
      have := bulkAll_range D len i hi
      obtain ⟨h8, h9⟩ := bounds_i64 h6
      exact ⟨h8, h9, by omega⟩
end
end Go.Proofs.YtcfebjekigcolaaDoor.Ar
