/-
  The rows that the law makes for itself: how they lie, and how they read.
  Conditions: none.
-/
import Derived.Test.YtcfebjekigcolaaDoorPEvalShowsx1
import Derived.Laws.OwnMore
namespace Go.Proofs.YtcfebjekigcolaaDoor.Hd
open Go Go.RowKit Go.Proofs Go.Proofs.YtcfebjekigcolaaDoor.PEvalShows Go.Proofs.YtcfebjekigcolaaDoorW.PrintWords Go.Proofs.YtcfebjekigcolaaDoorW.PrintLast Go.Proofs.YtcfebjekigcolaaDoorW.PrintMore
set_option linter.unusedVariables false
set_option linter.unusedSimpArgs false

/-- the cells of a row -/
def rowCells (R : List S28) (cs : List Value) : Prop := Reps (fun x c => c = [.int .u8 x.f0, .bool x.f1, .int .i64 x.f2, .string x.f3]) 4 R cs
theorem rowCells_read {w : World} {R : List S28} {cs : List Value} (h : rowCells R cs) : Reps (k28.K w) 4 R cs := h.imp_ (fun x c hc => by subst hc; exact k28_mk w x)
/-- the law's own trace in memory: v the outer row, vs its rows -/
structure Held (w : World) (B : Nat) (v : Value) (vs : List Value) (T : List (List S28)) : Prop where
  len : vs.length = T.length
  outer : w.ownsRow B 23 1 v T.length vs
  rows : ∀ j, j < T.length → ∃ cs, w.ownsRow B 28 4 (vs.getD j undef) (T.getD j []).length cs ∧ rowCells (T.getD j []) cs
  block : ∀ j, j < T.length → ∃ g, (vs.getD j undef).ownBlock = some g
  apart : ∀ j j', j < T.length → j' < T.length → j ≠ j' → (vs.getD j undef).ownBlock ≠ (vs.getD j' undef).ownBlock
theorem Held.reads {w : World} {B : Nat} {v : Value} {vs : List Value} {T : List (List S28)} (h : Held w B v vs T) : ∃ A c, v = .slice A T.length c ∧ T.length ≤ c ∧ Kd.C (Kd.slice 28 k28) w A T.length T := by
  have hr : OwnRow ((Kd.slice 28 k28).K w) 23 1 w B v T := by
    refine ⟨vs, h.outer, by rw [h.len]; omega, ?_⟩
    intro j R hj
    have hjl : j < T.length := by
      rcases Nat.lt_or_ge j T.length with h' | h'
      · exact h'
      · rw [List.getElem?_eq_none h'] at hj; cases hj
    have hR : T.getD j [] = R := by rw [List.getD_eq_getElem?_getD, hj]; rfl
    obtain ⟨cs, ho, hc⟩ := h.rows j hjl
    rw [hR] at ho hc
    have hrow : OwnRow (k28.K w) 28 4 w B (vs.getD j undef) R := ⟨cs, ho, rowCells_read hc⟩
    obtain ⟨A, c, he, hl, hread⟩ := OwnRow.reads hrow
    refine ⟨A, c, ?_, hl, hread⟩
    rw [← he]
    have hjv : j < vs.length := by rw [h.len]; exact hjl
    rw [Nat.mul_one, List.drop_eq_getElem_cons hjv, List.getD_eq_getElem?_getD, List.getElem?_eq_getElem hjv]
    rfl
  exact OwnRow.reads hr
theorem Held.kept {w w' : World} {B : Nat} {v : Value} {vs : List Value} {T : List (List S28)} (h : Held w B v vs T) (hk : ∀ k, k < w.heap.size → w'.heap[k]? = w.heap[k]?) : Held w' B v vs T where
  len := h.len
  outer := own_move h.outer (fun k e => hk k (h.outer.lt k e).2)
  rows := fun j hj => by
    obtain ⟨cs, ho, hc⟩ := h.rows j hj
    exact ⟨cs, own_move ho (fun k e => hk k (ho.lt k e).2), hc⟩
  block := h.block
  apart := h.apart
/-- rows of different element types lie in different blocks -/
theorem own_lower {w : World} {b b' : Nat} {e s n : Nat} {v : Value} {xs : List Value} (h : w.ownsRow b e s v n xs) (hb : b' ≤ b) : w.ownsRow b' e s v n xs := by
  obtain ⟨h1, h2⟩ := h
  refine ⟨h1, ?_⟩
  rcases h2 with h2 | ⟨g, cap, cur, he, hg, r⟩
  · exact .inl h2
  · exact .inr ⟨g, cap, cur, he, Nat.le_trans hb hg, r⟩
theorem types_apart {w : World} {b b' : Nat} {e e' s s' n n' : Nat} {v v' : Value} {xs xs' : List Value} (h : w.ownsRow b e s v n xs) (h' : w.ownsRow b' e' s' v' n' xs') (he : e ≠ e') (g : Nat) (hg : v.ownBlock = some g) : v'.ownBlock ≠ some g := by
  intro hg'
  obtain ⟨c, hc⟩ := own_typed h g hg
  obtain ⟨c', hc'⟩ := own_typed h' g hg'
  rw [hc] at hc'
  injection hc' with hc'
  injection hc' with h1 h2
  exact he h2
theorem getD_last (vs : List Value) (r : Value) : (vs ++ [r]).getD vs.length undef = r := by simp
theorem getD_old {α : Type} (vs : List α) (r d : α) (j : Nat) (hj : j < vs.length) : (vs ++ [r]).getD j d = vs.getD j d := by
  rw [List.getD_eq_getElem?_getD, List.getD_eq_getElem?_getD, List.getElem?_append_left hj]
theorem Held.push {w w1 w2 : World} {B : Nat} {v v' r : Value} {vs cs : List Value} {T : List (List S28)} {R : List S28} {g : Nat} (h : Held w B v vs T) (hB : B ≤ w.heap.size) (hk : ∀ k, k < w.heap.size → w1.heap[k]? = w.heap[k]?)
    (hr : w1.ownsRow w.heap.size 28 4 r R.length cs) (hc : rowCells R cs) (hg : r.ownBlock = some g) (ho : w2.ownsRow B 23 1 v' (T.length + 1) (vs ++ [r])) (hgr : w1.grownBy w2 v.ownBlock) : Held w2 B v' (vs ++ [r]) (T ++ [R]) := by
  have h1 := h.kept hk
  have hold : ∀ j, j < T.length → ∃ q, (vs.getD j undef).ownBlock = some q ∧ q < w.heap.size := by
    intro j hj
    obtain ⟨q, hq⟩ := h.block j hj
    obtain ⟨cs', ho', _⟩ := h.rows j hj
    exact ⟨q, hq, (ho'.lt q hq).2⟩
  have hgb := hr.lt g hg
  refine ⟨by simp [h.len], by simpa using ho, ?_, ?_, ?_⟩
  · intro j hj
    rw [List.length_append, List.length_singleton] at hj
    rcases Nat.lt_or_ge j T.length with hj' | hj'
    · rw [getD_old vs r _ j (by rw [h.len]; exact hj'), getD_old T R _ j hj']
      obtain ⟨cs', ho', hc'⟩ := h1.rows j hj'
      refine ⟨cs', ho'.kept hgr (.inr ?_), hc'⟩
      obtain ⟨q, hq, _⟩ := hold j hj'
      rw [hq]
      exact fun e => types_apart ho' h1.outer (by decide) q hq e.symm
    · have hj2 : j = T.length := by omega
      subst hj2
      have e1 : (vs ++ [r]).getD T.length undef = r := by rw [← h.len]; exact getD_last vs r
      have e2 : (T ++ [R]).getD T.length [] = R := by simp
      rw [e1, e2]
      refine ⟨cs, own_lower (hr.kept hgr (.inr ?_)) hB, hc⟩
      rw [hg]
      exact fun e => types_apart hr h1.outer (by decide) g hg e.symm
  · intro j hj
    rw [List.length_append, List.length_singleton] at hj
    rcases Nat.lt_or_ge j T.length with hj' | hj'
    · rw [getD_old vs r _ j (by rw [h.len]; exact hj')]
      exact h.block j hj'
    · have hj2 : j = T.length := by omega
      subst hj2
      have e1 : (vs ++ [r]).getD T.length undef = r := by rw [← h.len]; exact getD_last vs r
      rw [e1]
      exact ⟨g, hg⟩
  · intro j j' hj hj' hne
    rw [List.length_append, List.length_singleton] at hj hj'
    have e1 : (vs ++ [r]).getD T.length undef = r := by rw [← h.len]; exact getD_last vs r
    rcases Nat.lt_or_ge j T.length with hj1 | hj1
    · rcases Nat.lt_or_ge j' T.length with hj2 | hj2
      · rw [getD_old vs r _ j (by rw [h.len]; exact hj1), getD_old vs r _ j' (by rw [h.len]; exact hj2)]
        exact h.apart j j' hj1 hj2 hne
      · have : j' = T.length := by omega
        subst this
        obtain ⟨q, hq, hql⟩ := hold j hj1
        rw [getD_old vs r _ j (by rw [h.len]; exact hj1), e1, hq, hg]
        intro e
        injection e with e
        omega
    · have : j = T.length := by omega
      subst this
      have hj2 : j' < T.length := by omega
      obtain ⟨q, hq, hql⟩ := hold j' hj2
      rw [getD_old vs r _ j' (by rw [h.len]; exact hj2), e1, hq, hg]
      intro e
      injection e with e
      omega
theorem seg4 (cs : List Value) (j : Nat) (h : j * 4 + 4 ≤ cs.length) : (cs.drop (j * 4)).take 4 = [cs[j * 4], cs[j * 4 + 1], cs[j * 4 + 2], cs[j * 4 + 3]] := by
  rw [List.drop_eq_getElem_cons (show j * 4 < cs.length by omega), List.drop_eq_getElem_cons (show j * 4 + 1 < cs.length by omega), List.drop_eq_getElem_cons (show j * 4 + 1 + 1 < cs.length by omega), List.drop_eq_getElem_cons (show j * 4 + 1 + 1 + 1 < cs.length by omega)]
  rfl
/-- four cells set -/
def set4 (cs : List Value) (k : Nat) (a0 a1 a2 a3 : Value) : List Value := (((cs.set (k * 4) a0).set (k * 4 + 1) a1).set (k * 4 + 2) a2).set (k * 4 + 3) a3
theorem rowCells_set {R : List S28} {cs : List Value} (h : rowCells R cs) (k : Nat) (hk : k < R.length) (x : S28) : rowCells (R.set k x) (set4 cs k (.int .u8 x.f0) (.bool x.f1) (.int .i64 x.f2) (.string x.f3)) := by
  obtain ⟨hl, hc⟩ := h
  have hl4 : (set4 cs k (.int .u8 x.f0) (.bool x.f1) (.int .i64 x.f2) (.string x.f3)).length = cs.length := by simp [set4]
  refine ⟨by rw [hl4, List.length_set]; exact hl, ?_⟩
  intro j p hj
  have hjl : j < R.length := by
    rcases Nat.lt_or_ge j R.length with h' | h'
    · exact h'
    · rw [List.getElem?_eq_none (by rw [List.length_set]; exact h')] at hj; cases hj
  rw [seg4 _ j (by rw [hl4, hl]; omega)]
  by_cases e : j = k
  · subst e
    rw [List.getElem?_set_self hjl] at hj
    injection hj with hj
    subst hj
    simp [set4, List.getElem_set]
  · rw [List.getElem?_set_ne (fun e' => e e'.symm)] at hj
    have h1 := hc j p hj
    rw [seg4 _ j (by rw [hl]; omega)] at h1
    rw [← h1]
    simp only [set4, List.getElem_set]
    rw [if_neg (by omega), if_neg (by omega), if_neg (by omega), if_neg (by omega), if_neg (by omega), if_neg (by omega), if_neg (by omega), if_neg (by omega), if_neg (by omega), if_neg (by omega), if_neg (by omega), if_neg (by omega), if_neg (by omega), if_neg (by omega), if_neg (by omega), if_neg (by omega)]
/-- a value stored -/
def put4 (w : World) (g k : Nat) (x : S28) : World := (((w.setCell ⟨g, k * 4, none⟩ (.int .u8 x.f0)).setCell ⟨g, k * 4 + 1, none⟩ (.bool x.f1)).setCell ⟨g, k * 4 + 2, none⟩ (.int .i64 x.f2)).setCell ⟨g, k * 4 + 3, none⟩ (.string x.f3)
theorem put4_far (w : World) (g k : Nat) (x : S28) (q : Nat) (h : q ≠ g) : (put4 w g k x).heap[q]? = w.heap[q]? := by
  unfold put4
  rw [Below.heap_setCell _ _ _ _ (by simpa using h), Below.heap_setCell _ _ _ _ (by simpa using h), Below.heap_setCell _ _ _ _ (by simpa using h), Below.heap_setCell _ _ _ _ (by simpa using h)]
theorem put4_below (w : World) (B g k : Nat) (x : S28) (h : B ≤ g) : Below B w (put4 w g k x) := ((((Below.refl B w).setCell (p := ⟨g, k * 4, none⟩) h _).setCell (p := ⟨g, k * 4 + 1, none⟩) h _).setCell (p := ⟨g, k * 4 + 2, none⟩) h _).setCell (p := ⟨g, k * 4 + 3, none⟩) h _
theorem Held.store {w : World} {B : Nat} {v : Value} {vs : List Value} {T : List (List S28)} (h : Held w B v vs T) (i : Nat) (hi : i < T.length) :
    ∃ g cap cs, vs.getD i undef = .slice (some ⟨g, 0, none⟩) (T.getD i []).length cap ∧ B ≤ g ∧ (T.getD i []).length ≤ cap ∧ w.ownsRow B 28 4 (.slice (some ⟨g, 0, none⟩) (T.getD i []).length cap) (T.getD i []).length cs ∧
      ∀ k x, k < (T.getD i []).length → Held (put4 w g k x) B v vs (T.set i ((T.getD i []).set k x)) := by
  obtain ⟨g, hg⟩ := h.block i hi
  obtain ⟨cs, ho, hc⟩ := h.rows i hi
  obtain ⟨cap, he, hcap⟩ : ∃ cap, vs.getD i undef = .slice (some ⟨g, 0, none⟩) (T.getD i []).length cap ∧ (T.getD i []).length ≤ cap := by
    rcases ho.2 with ⟨h0, _⟩ | ⟨g', cap, cur, he, _, _, hle, _⟩
    · rw [h0] at hg; cases hg
    · rw [he] at hg
      have : g' = g := by simpa [Value.ownBlock] using hg
      subst this
      exact ⟨cap, he, hle⟩
  have ho2 := ho
  rw [he] at ho2
  refine ⟨g, cap, cs, he, (ho.lt g hg).1, hcap, ho2, ?_⟩
  intro k x hk
  have hR : ∀ j, (T.set i ((T.getD i []).set k x)).getD j [] = if j = i then (T.getD i []).set k x else T.getD j [] := by
    intro j
    by_cases e : j = i
    · subst e
      rw [if_pos rfl, List.getD_eq_getElem?_getD, List.getElem?_set_self hi]
      rfl
    · rw [if_neg e, List.getD_eq_getElem?_getD, List.getElem?_set_ne (fun e' => e e'.symm), ← List.getD_eq_getElem?_getD]
  refine ⟨by rw [List.length_set]; exact h.len, ?_, ?_, fun j hj => h.block j (by rwa [List.length_set] at hj), fun j j' hj hj' hne => h.apart j j' (by rwa [List.length_set] at hj) (by rwa [List.length_set] at hj') hne⟩
  · rw [List.length_set]
    exact own_move h.outer (fun q hq => put4_far w g k x q (fun e => types_apart ho h.outer (by decide) g hg (by rw [hq, e])))
  · intro j hj
    rw [List.length_set] at hj
    rw [hR j]
    by_cases e : j = i
    · subst e
      rw [if_pos rfl, List.length_set, he]
      refine ⟨set4 cs k (.int .u8 x.f0) (.bool x.f1) (.int .i64 x.f2) (.string x.f3), ?_, rowCells_set hc k hk x⟩
      exact (((((ho2.stored _ _).1).stored _ _).1.stored _ _).1.stored _ _).1
    · rw [if_neg e]
      obtain ⟨cs', ho', hc'⟩ := h.rows j hj
      refine ⟨cs', own_move ho' (fun q hq => put4_far w g k x q (fun e' => h.apart j i hj hi e (by rw [hq, hg, e']))), hc'⟩
end Go.Proofs.YtcfebjekigcolaaDoor.Hd
