/-
  What a trace of small bulk shows is small.
  Conditions: at most 2^20 rows and entries, each text at most 2^20 bytes, each number an int64.
-/
import Derived.Test.YtcfebjekigcolaaDoorTrace
import Derived.Lib.ItoaLen
namespace Go.Proofs.YtcfebjekigcolaaDoor.Tc
open Go Go.Shelf Go.RowKit Go.Proofs Go.Proofs.YtcfebjekigcolaaDoor.PEvalShows
set_option linter.unusedVariables false
set_option linter.unusedSimpArgs false

/-- an entry that is small -/
def Small (x : S28) : Prop := -9223372036854775808 ≤ x.f2 ∧ x.f2 ≤ 9223372036854775807 ∧ x.f3.size ≤ 1048576
theorem sh_len (x : S28) (h : Small x) : (sh x).length ≤ 4194306 := by
  obtain ⟨h0, h1, h2⟩ := h
  unfold sh Vl.shown
  have hi := Lib.itoa_length_le x.f2 h0 h1
  have hq := Pl.quote_len x.f3
  split
  · simp
  · split
    · split <;> simp
    · split
      · omega
      · omega
theorem rowTo_le (M : Nat) (R : List S28) (hR : ∀ k, k < R.length → (sh (R.getD k z28)).length + 1 ≤ M) (k : Nat) (hk : k ≤ R.length) : (rowTo R k).length ≤ k * M := by
  induction k with
  | zero => simp [rowTo]
  | succ k ih =>
    have h1 := ih (by omega)
    have h2 := hR k (by omega)
    simp only [rowTo, List.length_append, Nat.add_mul, Nat.one_mul]
    have h3 : (if k = 0 then ([] : List UInt8) else [32]).length ≤ 1 := by split <;> simp
    omega
/-- the entries of the first i rows -/
def count (T : List (List S28)) : Nat → Nat
  | 0 => 0
  | i + 1 => count T i + (T.getD i []).length
theorem toRow_le (M : Nat) (T : List (List S28)) (hT : ∀ i k, i < T.length → k < (T.getD i []).length → (sh ((T.getD i []).getD k z28)).length + 1 ≤ M) (i : Nat) (hi : i ≤ T.length) : (toRow T i).length ≤ count T i * M + i := by
  induction i with
  | zero => simp [toRow]
  | succ i ih =>
    have h1 := ih (by omega)
    have h2 := rowTo_le M (T.getD i []) (fun k hk => hT i k (by omega) hk) (T.getD i []).length (Nat.le_refl _)
    simp only [toRow, List.length_append, List.length_cons, List.length_nil, count, Nat.add_mul]
    omega
theorem Ok.of_small (T : List (List S28)) (hT : ∀ i k, i < T.length → k < (T.getD i []).length → Small ((T.getD i []).getD k z28)) (hn : T.length ≤ 1048576) (hc : count T T.length ≤ 1048576) : Ok T where
  nums := fun i k hi hk => by
    have h := hT i k hi hk
    exact ⟨h.1, h.2.1, by have := h.2.2; omega⟩
  size := by
    have h := toRow_le 4194307 T (fun i k hi hk => by have := sh_len _ (hT i k hi hk); omega) T.length (Nat.le_refl _)
    have h2 : count T T.length * 4194307 ≤ 1048576 * 4194307 := Nat.mul_le_mul_right _ hc
    unfold all
    omega
/-- the rows of one length, entry by entry -/
theorem count_congr (T T' : List (List S28)) (h : ∀ i, (T.getD i []).length = (T'.getD i []).length) (i : Nat) : count T i = count T' i := by
  induction i with
  | zero => rfl
  | succ i ih => simp only [count, ih, h]
end Go.Proofs.YtcfebjekigcolaaDoor.Tc
