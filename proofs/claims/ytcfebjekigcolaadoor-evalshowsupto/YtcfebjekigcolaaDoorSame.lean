/-
  SameTrace of a trace and itself: true.
  Conditions: at most 2^46 rows, each of at most 2^46 entries.
-/
import Derived.Test.YtcfebjekigcolaaDoorPEvalShowsx5
namespace Go.Proofs.YtcfebjekigcolaaDoor.Sm
open Go Go.RowKit Go.Proofs Go.Proofs.YtcfebjekigcolaaDoor.PEvalShows
set_option linter.unusedVariables false
set_option linter.unusedSimpArgs false

theorem wrap_small (n : Int) (h0 : 0 ≤ n) (h1 : n < 9223372036854775808) : wrap64 n = n := by
  unfold wrap64
  omega
theorem l1_true (T : List (List S28)) (i : Nat) (hi : i < T.length) (hT : T.length ≤ 70368744177664) (hR : (T.getD i []).length ≤ 70368744177664)
    (h0 : ∃ k, monikerplain_SameTrace.l0 k T T (T.length : Int) ((i + 1 : Nat) : Int) = some true) :
    ∀ d j, j + d = (T.getD i []).length → ∃ k, monikerplain_SameTrace.l1 k T T (i : Int) (T.length : Int) (i : Int) ((T.getD i []).length : Int) (j : Int) = some true := by
  have hL : ∀ x : Int, x = (i : Int) → rd_L5 T x = T.getD i [] := by intro x hx; subst hx; rfl
  intro d
  induction d with
  | zero =>
    intro j hj
    obtain ⟨k, hk⟩ := h0
    refine ⟨k + 1, ?_⟩
    simp only [monikerplain_SameTrace.l1]
    rw [if_neg (by omega), wrap_small _ (by omega) (by omega)]
    exact hk
  | succ d ih =>
    intro j hj
    obtain ⟨k, hk⟩ := ih (j + 1) (by omega)
    refine ⟨k + 1, ?_⟩
    simp only [monikerplain_SameTrace.l1, hL _ rfl]
    rw [if_pos (by omega), if_pos (by omega), if_pos (by omega), if_pos (by omega), if_pos (by omega), if_pos (by omega), if_pos (by omega), if_neg (by simp), wrap_small _ (by omega) (by omega)]
    exact hk
theorem l0_true (T : List (List S28)) (hT : T.length ≤ 70368744177664) (hR : ∀ i, i < T.length → (T.getD i []).length ≤ 70368744177664) :
    ∀ d i, i + d = T.length → ∃ k, monikerplain_SameTrace.l0 k T T (T.length : Int) (i : Int) = some true := by
  intro d
  induction d with
  | zero =>
    intro i hi
    refine ⟨1, ?_⟩
    simp only [monikerplain_SameTrace.l0]
    rw [if_neg (by omega)]
  | succ d ih =>
    intro i hi
    have hL : rd_L5 T (i : Int) = T.getD i [] := rfl
    obtain ⟨k, hk⟩ := l1_true T i (by omega) hT (hR i (by omega)) (ih (i + 1) (by omega)) (T.getD i []).length 0 (by omega)
    refine ⟨k + 1, ?_⟩
    simp only [monikerplain_SameTrace.l0, hL]
    rw [if_pos (by omega), if_pos (by omega), if_pos (by omega), if_pos (by omega), if_pos trivial]
    exact hk
theorem same_refl (T : List (List S28)) (hT : T.length ≤ 70368744177664) (hR : ∀ i, i < T.length → (T.getD i []).length ≤ 70368744177664) : ∃ k, monikerplain_SameTrace.f k T T = some true := by
  obtain ⟨k, hk⟩ := l0_true T hT hR T.length 0 (by omega)
  refine ⟨k, ?_⟩
  unfold monikerplain_SameTrace.f
  rw [if_pos rfl]
  exact hk
end Go.Proofs.YtcfebjekigcolaaDoor.Sm
