/-
  WriteByte leaves a block that is not the builder's as it was.
  Conditions: as for WriteByte.
-/
import Derived.Test.YtcfebjekigcolaaDoorBuilder
namespace Go.Proofs.YtcfebjekigcolaaDoor.Bld
open Go Go.Shelf Go.RowKit Go.Proofs
set_option linter.unusedVariables false

theorem copyCheckZ (B b : Nat) (bs : List Value) (w : World) (h : Lib.IsBuilder 34 5 B b bs w) :
    Calls Tryd.prog 15 #[.pointer (some ⟨b, 0, none⟩)] w fun e w' => e = .returned (.tuple #[]) ∧ (Lib.BuilderAt 34 5 B b (.pointer (some ⟨b, 0, none⟩)) bs w' ∧ Below B w w' ∧ (∀ z, z ≠ b → w'.heap[z]? = w.heap[z]?) ∧ ∀ p v, w'.heap[b]? = some (.cells #[p, v] 34 (0, 0)) → ∃ q, w.heap[b]? = some (.cells #[q, v] 34 (0, 0))) := by
  rcases h with h | h
  · refine (copyCheck_fresh b w h.cell0 h.shape h.frozen0).mono ?_
    rintro e w' ⟨rfl, rfl⟩
    refine ⟨rfl, h.used _, (Below.refl B w).setCell (p := ⟨b, 0, none⟩) h.1 _, fun z hz => Below.heap_setCell _ _ _ _ (fun e => hz (by simp [e])), ?_⟩
    intro p v hv
    obtain ⟨_, v0, hb, _, _⟩ := h
    refine ⟨.pointer none, ?_⟩
    have := hv
    simp [World.setCell, Array.getElem?_modify, hb] at this
    rw [hb, this.2]
  · refine (copyCheck_used b w h.cell0).mono ?_
    rintro e w' ⟨rfl, rfl⟩
    exact ⟨rfl, h, Below.refl B _, fun _ _ => rfl, fun p v hv => ⟨p, hv⟩⟩

set_option maxHeartbeats 2000000 in
set_option maxRecDepth 100000 in
theorem writeByteZ (B b : Nat) (bs : List Value) (c : Int) (w : World) (h : Lib.IsBuilder 34 5 B b bs w) (hlen : bs.length + 1 ≤ 140737488355328) (hBw : B ≤ w.heap.size) (z : Nat) (hz : z < w.heap.size) (hzb : z ≠ b) (hzo : ∀ p v, w.heap[b]? = some (.cells #[p, v] 34 (0, 0)) → v.ownBlock ≠ some z) :
    Calls Tryd.prog 8 #[.pointer (some ⟨b, 0, none⟩), .int .u8 c] w fun e w' => e = .returned .nilIface ∧ (Lib.IsBuilder 34 5 B b (bs ++ [.int .u8 c]) w' ∧ Below B w w' ∧ w'.heap[z]? = w.heap[z]?) := by
  obtain ⟨i0, hi, hz0, hz1, hz2⟩ := info_parts infoByte
  go_enter Tryd.func8, Tryd.ntmps8
  go_wp2_with (go_at_call 15; refine (copyCheckZ B b bs _ h).mono ?_)
  rintro e w1 ⟨rfl, h1, hb1, hk1, ho1⟩
  have hz1' := hb1.size
  obtain ⟨hB, v, hbk, hown, hne⟩ := h1
  obtain ⟨q, hq⟩ := ho1 _ _ hbk
  have hvz := hzo _ _ hq
  have hzw := hk1 z hzb
  clear hk1 ho1
  have c0 : w1.cell? ⟨b, 0, none⟩ = some (.pointer (some ⟨b, 0, none⟩)) := by rw [Lib.cell_of_heap hbk]; rfl
  have c1 : w1.cell? ⟨b, 1, none⟩ = some v := by rw [Lib.cell_of_heap hbk]; rfl
  go_wp2_with (at_builtin; refine wpList_append_own _ rfl _ _ 32 rfl B 5 i0 (.int .u8 0) 1 1 Tryd.underlying32 hi hz0 hz1 hz2 rfl (by decide) _ _ _ rfl (hown.alloc _) ⟨w1.heap.size, 0, none⟩ 1 1 [.int .u8 c] rfl rfl ?c1 ?c2 ?c3 ?c4 ?c5 ?_)
  case c1 =>
    intro j u hj
    match j, hj with
    | 0, hj => simp at hj; subst hj; simp [Addr.add]
  case c2 => intro u hu; simp at hu; subst hu; rfl
  case c3 => unfold maxLen; omega
  case c4 => omega
  case c5 => have := hb1.size; simp; omega
  intro v' w2 hown' hgrow _
  have hlt : b < w1.heap.size := by
    rcases Nat.lt_or_ge b w1.heap.size with h' | h'
    · exact h'
    · simp [Array.getElem?_eq_none h'] at hbk
  have hb2 : w2.heap[b]? = some (.cells #[.pointer (some ⟨b, 0, none⟩), v] 34 (0, 0)) := by
    rw [hgrow.block b (by simp; omega) (fun e => hne e.symm), Lib.alloc_old w1 _ b hlt]
    exact hbk
  have hz2' : w2.heap[z]? = w.heap[z]? := by
    rw [hgrow.block z (by simp; omega) (fun e => hvz e.symm), Lib.alloc_old w1 _ z (by omega)]
    exact hzw
  have d0 : w2.cell? ⟨b, 0, none⟩ = some (.pointer (some ⟨b, 0, none⟩)) := by rw [Lib.cell_of_heap hb2]; rfl
  have d1 : w2.cell? ⟨b, 1, none⟩ = some v := by rw [Lib.cell_of_heap hb2]; rfl
  have f1 : w2.frozen? ⟨b, 1, none⟩ = false := Lib.frozen_of_heap hb2 1
  obtain ⟨g, cap, rfl⟩ : ∃ g cap, v' = .slice (some ⟨g, 0, none⟩) (bs.length + 1) cap := by
    rcases hown'.2 with ⟨_, h0⟩ | ⟨g, cap, cur, hv, _⟩
    · omega
    · exact ⟨g, cap, hv⟩
  go_wp2
  go_ret
  refine ⟨rfl, .inr ?_, ?_, ?_⟩
  · exact Lib.BuilderAt.put (T := 34) (e := 5) hB hb2 (bs' := bs ++ [.int .u8 c]) (by simpa using hown') ne5
  · exact ((hb1.alloc (by have := hb1.size; omega) _).grown hgrow (by have := hb1.size; simp; omega) (fun k hk => (hown.lt k hk).1)).setCell (p := ⟨b, 1, none⟩) hB _
  · rw [Below.heap_setCell _ _ _ _ (fun e => hzb (by simpa using e))]
    exact hz2'
/-- a block that is laid now is none of the builder's -/
theorem own_new {B b : Nat} {bs : List Value} {w : World} (h : Lib.IsBuilder 34 5 B b bs w) (o : Obj) : w.heap.size ≠ b ∧ ∀ p v, (w.alloc o).heap[b]? = some (.cells #[p, v] 34 (0, 0)) → v.ownBlock ≠ some w.heap.size := by
  have key : ∀ q, Lib.BuilderAt 34 5 B b q bs w → w.heap.size ≠ b ∧ ∀ p v, (w.alloc o).heap[b]? = some (.cells #[p, v] 34 (0, 0)) → v.ownBlock ≠ some w.heap.size := by
    intro q hq
    have hlt := hq.lt
    obtain ⟨_, v0, hb, hown, _⟩ := hq
    refine ⟨by omega, ?_⟩
    intro p v hv he
    rw [Lib.alloc_old w o b hlt, hb] at hv
    have hv' : q = p ∧ v0 = v := by
      injection hv with hv
      injection hv with hv
      simpa using (Array.mk.inj hv)
    obtain ⟨_, hv'⟩ := hv'
    subst hv'
    exact absurd (hown.lt _ he).2 (Nat.lt_irrefl _)
  exact h.elim (key _) (key _)
end Go.Proofs.YtcfebjekigcolaaDoor.Bld
