/-
  The law EvalShows returns true.
  Conditions: at most 2^20 rows and entries, each text at most 2^20 bytes; the tables that are read hold what their initialisers lay.
-/
import Derived.Test.YtcfebjekigcolaaDoorOwnTrace
import Derived.Test.YtcfebjekigcolaaDoorBounds
import Derived.Test.YtcfebjekigcolaaDoorHeld
import Derived.Test.YtcfebjekigcolaaDoorSame
namespace Go.Proofs.YtcfebjekigcolaaDoor.Lw
open Go Go.Shelf Go.RowKit Go.Proofs Go.Proofs.YtcfebjekigcolaaDoor.Qt Go.Proofs.YtcfebjekigcolaaDoor.PEvalShows Go.Proofs.YtcfebjekigcolaaDoorW.PrintWords Go.Proofs.YtcfebjekigcolaaDoorW.PrintLast Go.Proofs.YtcfebjekigcolaaDoorW.PrintMore
set_option linter.unusedVariables false
set_option linter.unusedSimpArgs false

theorem held_nil (w : World) : Hd.Held w w.heap.size (.slice none 0 0) [] [] where
  len := rfl
  outer := ⟨rfl, .inl ⟨rfl, rfl⟩⟩
  rows := fun j hj => absurd hj (Nat.not_lt_zero _)
  block := fun j hj => absurd hj (Nat.not_lt_zero _)
  apart := fun j j' hj => absurd hj (Nat.not_lt_zero _)

theorem cells_of_C {w : World} {a : Addr} {R : List S28} (h : k28.C w (some a) R.length R) : ∃ cs, Hd.rowCells R cs ∧ ∀ j u, cs[j]? = some u → w.cell? (a.add j) = some u := by
  obtain ⟨cs, hc, hr⟩ := ReadsRow.inner_ h
  refine ⟨cs, ?_, hr⟩
  exact hc.imp_ (fun x c hk => k28_open hk)
/-- append of a row that may be nil -/
theorem wpList_append_any {P : Program} {w : World} {ops : Array Oper} {rest : List Oper} {o : Oper} {a : Act} {Q : Exit → Act → World → Prop} (hgd : o.guard = none) (s x : Operand) (t : TypeId)
    (ho : o.op = .call { callee := .builtin .append, args := #[s, x], argTypes := #[t, t] })
    (base : Nat) (e : TypeId) (i : TypeInfo) (z : Value) (size bytes : Nat) (ht : P.underlying t = some (.slice e)) (hi : P.info? e = some i) (hz : i.zero = some z)
    (hsize : i.size = size) (hby : i.bytes = bytes) (hzs : z.cells.size = size) (hsz : 0 < size)
    (v : Value) (n : Nat) (xs : List Value) (hs : a.eval s = v) (hown : w.ownsRow base e size v n xs)
    (A : Option Addr) (m c : Nat) (news : List Value) (hx : a.eval x = .slice A m c) (hl : news.length = m * size) (h0 : A = none → m = 0) (hnews : ∀ ad, A = some ad → ∀ j u, news[j]? = some u → w.cell? (ad.add j) = some u) (h1 : ∀ u ∈ news, u.oneCell' = true)
    (h63 : n + m ≤ maxLen) (hbytes : (n + m) * bytes ≤ 140737488355328) (hbase : base ≤ w.heap.size) (hv0 : v ≠ .slice none 0 0)
    (h : ∀ v' w', w'.ownsRow base e size v' (n + m) (xs ++ news) → w.grownBy w' v.ownBlock → v' ≠ .slice none 0 0 → wpList P ops Q rest (a.put o.dst v') w') : wpList P ops Q (o :: rest) a w := by
  cases A with
  | some ad => exact wpList_append_own w hgd s x t ho base e i z size bytes ht hi hz hsize hby hzs hsz v n xs hs hown ad m c news hx hl (hnews ad rfl) h1 h63 hbytes hbase (fun v' w' r1 r2 r3 => h v' w' r1 r2 (fun q => hv0 (r3.1 q).1))
  | none =>
    have hm := h0 rfl
    subst hm
    obtain rfl : news = [] := List.eq_nil_of_length_eq_zero (by simpa using hl)
    refine wpList_plain hgd fun K hK => ?_
    have hrun : (Builtin.append_ #[t, t] o.type #[v, .slice none 0 c]).run P w = .ok v w := by
      rcases hown.2 with ⟨rfl, rfl⟩ | ⟨g, cap, cur, rfl, _, _, hnc, _⟩
      · simp [Builtin.append_, run_underlying ht, sizeOf, typeInfo, hi, Builtin.lenOf, Builtin.firstCells]
      · simp [Builtin.append_, run_underlying ht, sizeOf, typeInfo, hi, Builtin.lenOf, Builtin.firstCells, hnc, storeCells]
    unfold Oper.wp
    simp [execOp, ho, resolve, invoke, builtin, hs, hx, hrun, Result.andThen]
    exact hK _ _ (h v w (by simpa using hown) ⟨rfl, rfl, rfl, Nat.le_refl _, fun _ _ _ => rfl⟩ hv0)
theorem cells_of_any {w : World} {A : Option Addr} {R : List S28} (h : k28.C w A R.length R) : ∃ cs, Hd.rowCells R cs ∧ (A = none → R.length = 0) ∧ ∀ a, A = some a → ∀ j u, cs[j]? = some u → w.cell? (a.add j) = some u := by
  cases A with
  | some a =>
    obtain ⟨cs, h1, h2⟩ := cells_of_C h
    exact ⟨cs, h1, (fun e => by cases e), (fun a' e => by injection e with e; subst e; exact h2)⟩
  | none =>
    have h0 : R.length = 0 := by
      rcases Nat.eq_zero_or_pos R.length with h0 | h0
      · exact h0
      · obtain ⟨ad, e, _⟩ := at_T28 h 0 (by omega) (by omega)
        cases e
    obtain rfl := List.eq_nil_of_length_eq_zero h0
    exact ⟨[], Reps.none _ _, (fun _ => rfl), (fun a e => by cases e)⟩
theorem one_cells {R : List S28} {cs : List Value} (h : Hd.rowCells R cs) : ∀ u ∈ cs, u.oneCell' = true := by
  obtain ⟨hl, hc⟩ := h
  intro u hu
  obtain ⟨q, hq, rfl⟩ := List.mem_iff_getElem.1 hu
  have hj : q / 4 < R.length := by omega
  have h1 := hc (q / 4) _ (List.getElem?_eq_getElem hj)
  rw [Hd.seg4 cs (q / 4) (by omega)] at h1
  have h2 : q % 4 = 0 ∨ q % 4 = 1 ∨ q % 4 = 2 ∨ q % 4 = 3 := by omega
  injection h1 with e0 h1
  injection h1 with e1 h1
  injection h1 with e2 h1
  injection h1 with e3 h1
  rcases h2 with h2 | h2 | h2 | h2
  · have : q = q / 4 * 4 := by omega
    simp only [show cs[q] = cs[q / 4 * 4] by congr 1, e0]; rfl
  · simp only [show cs[q] = cs[q / 4 * 4 + 1] by congr 1; omega, e1]; rfl
  · simp only [show cs[q] = cs[q / 4 * 4 + 2] by congr 1; omega, e2]; rfl
  · simp only [show cs[q] = cs[q / 4 * 4 + 3] by congr 1; omega, e3]; rfl

theorem held_row {w : World} {B n c : Nat} {A : Option Addr} {vs : List Value} {T : List (List S28)} (h : Hd.Held w B (.slice A n c) vs T) (hn : T.length = n) (i : Nat) (hi : i < n) : ∃ g, A = some ⟨g, 0, none⟩ ∧ w.cell? ⟨g, i, none⟩ = some (vs.getD i undef) := by
  have ho := h.outer
  rw [hn] at ho
  rcases ho.2 with ⟨e, e0⟩ | ⟨g, cap, _, e, _⟩
  · omega
  · injection e with e1 e2 e3
    subst e1 e3
    refine ⟨g, rfl, ?_⟩
    rw [ho.cellAt i (by omega)]
    have hl := h.len
    rw [List.getD_eq_getElem?_getD, List.getElem?_eq_getElem (by omega)]
    rfl
theorem count_mono (T : List (List S28)) (i m : Nat) : Tc.count T i ≤ Tc.count T (i + m) := by
  induction m with
  | zero => exact Nat.le_refl _
  | succ m ih => rw [show i + (m + 1) = (i + m) + 1 by omega]; simp only [Tc.count]; omega
theorem count_row (T : List (List S28)) (i : Nat) (hi : i < T.length) : (T.getD i []).length ≤ Tc.count T T.length := by
  have h := count_mono T (i + 1) (T.length - (i + 1))
  rw [show i + 1 + (T.length - (i + 1)) = T.length by omega] at h
  simp only [Tc.count] at h
  omega

theorem getD_set (T : List (List S28)) (i : Nat) (hi : i < T.length) (R : List S28) (j : Nat) : (T.set i R).getD j [] = if j = i then R else T.getD j [] := by
  by_cases e : j = i
  · subst e
    rw [if_pos rfl, List.getD_eq_getElem?_getD, List.getElem?_set_self hi]
    rfl
  · rw [if_neg e, List.getD_eq_getElem?_getD, List.getElem?_set_ne (fun e' => e e'.symm), ← List.getD_eq_getElem?_getD]
theorem set_rows (T : List (List S28)) (i k : Nat) (hi : i < T.length) (x : S28) (j : Nat) : ((T.set i ((T.getD i []).set k x)).getD j []).length = (T.getD j []).length := by
  rw [getD_set T i hi]
  split
  · next e => rw [e, List.length_set]
  · rfl
theorem set_small (T : List (List S28)) (i k : Nat) (hi : i < T.length) (x : S28) (hx : Tc.Small x) (h : ∀ i k, i < T.length → k < (T.getD i []).length → Tc.Small ((T.getD i []).getD k z28)) :
    ∀ j q, j < (T.set i ((T.getD i []).set k x)).length → q < ((T.set i ((T.getD i []).set k x)).getD j []).length → Tc.Small (((T.set i ((T.getD i []).set k x)).getD j []).getD q z28) := by
  intro j q hj hq
  rw [List.length_set] at hj
  rw [set_rows T i k hi] at hq
  rw [getD_set T i hi]
  split
  · next e =>
    subst e
    by_cases e2 : q = k
    · subst e2
      rw [List.getD_eq_getElem?_getD, List.getElem?_set_self hq]
      exact hx
    · rw [List.getD_eq_getElem?_getD, List.getElem?_set_ne (fun e' => e2 e'.symm), ← List.getD_eq_getElem?_getD]
      exact h j q hj hq
  · exact h j q hj hq
theorem one_row {W : World} {ad : Addr} {A : Option Addr} (h : W.cell? ad = some (.slice A 0 0)) : Kd.C (Kd.slice 28 k28) W (some ad) 1 [[]] := by
  refine ⟨rfl, by omega, fun _ => ⟨ad, rfl, fun j p hj => ?_⟩⟩
  match j, hj with
  | 0, hj =>
    injection hj with hj
    subst hj
    refine ⟨[.slice A 0 0], rfl, ⟨A, 0, rfl, Nat.le_refl _, ⟨rfl, by simp, fun h => absurd h (by simp)⟩⟩, fun i u hu => ?_⟩
    match i, hu with
    | 0, hu =>
      injection hu with hu
      subst hu
      exact h
theorem small_new (i k : Nat) (hi : i ≤ 1048576) (hk : k ≤ 1048576) : Tc.Small ⟨2, false, (i : Int) + 2 * (k : Int), ⟨#[]⟩⟩ := by
  have h1 : (-9223372036854775808 : Int) ≤ (i : Int) + 2 * (k : Int) := by omega
  have h2 : (i : Int) + 2 * (k : Int) ≤ 9223372036854775807 := by omega
  exact ⟨h1, h2, by show 0 ≤ 1048576; omega⟩
theorem ok_one : Tc.Ok [[]] := Tc.Ok.of_small [[]] (fun i k hi hk => by
    have : i = 0 := by simpa using hi
    subst this
    exact absurd hk (Nat.not_lt_zero _)) (by simp) (by simp [Tc.count])

theorem one_all : Tc.all [[]] = [10] := rfl
theorem call1 (w6 : World) (hL : LaidW ((w6.alloc (.cells #[] 28)).alloc (.cells #[.slice (some ⟨w6.heap.size, 0, none⟩) 0 0] 23))) :
    Calls Tryd.prog 5 #[.slice (some ⟨w6.heap.size + 1, 0, none⟩) 1 1] ((w6.alloc (.cells #[] 28)).alloc (.cells #[.slice (some ⟨w6.heap.size, 0, none⟩) 0 0] 23)) fun e w' => e = .returned (.string ⟨#[10]⟩) ∧ Below ((w6.alloc (.cells #[] 28)).alloc (.cells #[.slice (some ⟨w6.heap.size, 0, none⟩) 0 0] 23)).heap.size ((w6.alloc (.cells #[] 28)).alloc (.cells #[.slice (some ⟨w6.heap.size, 0, none⟩) 0 0] 23)) w' := by
  refine Tc.ownShow [[]] (some ⟨w6.heap.size + 1, 0, none⟩) 1 _ (one_row (A := some ⟨w6.heap.size, 0, none⟩) ?_) (Nat.le_refl _) ok_one hL
  simp

set_option maxHeartbeats 4000000 in
set_option maxRecDepth 100000 in
theorem law (T : List (List S28)) (A0 : Option Addr) (c0 : Nat) (w : World) (hr : Kd.C (Kd.slice 28 k28) w A0 T.length T) (hc : T.length ≤ c0) (hT : ∀ i k, i < T.length → k < (T.getD i []).length → Tc.Small ((T.getD i []).getD k z28)) (hn : T.length ≤ 1048576) (hcnt : Tc.count T T.length ≤ 1048576) (hL : LaidW w) :
    Calls Tryd.prog 3 #[.slice A0 T.length c0] w fun e w' => e = .returned (.bool true) ∧ Below w.heap.size w w' := by
  have HL := Lib.hid hL
  have HR := Lib.hid hr
  clear hL hr
  go_enter Tryd.func3, Tryd.ntmps3
  go_wp2
  go_loopw [3, 11] (fun v n wr => ∃ i : Nat, ∃ vs, n = .int .i64 i ∧ i ≤ T.length ∧ Hd.Held wr w.heap.size v vs (T.take i) ∧ Below w.heap.size w wr) (fun _ n _ => T.length - (intOf n).toNat)
  case atStart => exact ⟨0, [], rfl, Nat.zero_le _, held_nil w, Below.refl _ _⟩
  case round =>
    obtain ⟨i, vs, rfl, hi, hH, hB⟩ := hrel
    have hsz := hB.size
    by_cases hlt : i < T.length
    · obtain ⟨ad, A1, c1, rfl, hx', hl1, hi1'⟩ := at_L5 HR.out (i : Int) (by omega) (by omega)
      have hx : w.cell? (ad.add i) = some (.slice A1 (T.getD i []).length c1) := hx'
      have hxr : wr.cell? (ad.add i) = some (.slice A1 (T.getD i []).length c1) := (hB.cell (World.block_lt_of_cell? w _ hx)).trans hx
      have hi1 : k28.C w A1 (T.getD i []).length (T.getD i []) := hi1'
      have hRl := count_row T i hlt
      generalize hRR : T.getD i [] = R at hx hxr hi1 hl1 hRl
      obtain ⟨i28, hi28, hz0, hz1, hz2⟩ := info_parts info28
      obtain ⟨cs, hcs, hA10, hread⟩ := cells_of_any hi1
      have hown0 : (wr.alloc (.cells #[] 28)).ownsRow wr.heap.size 28 4 (.slice (some ⟨wr.heap.size, 0, none⟩) 0 0) 0 [] := ⟨rfl, .inr ⟨wr.heap.size, 0, #[], rfl, Nat.le_refl _, heap_alloc_new _ _, Nat.le_refl _, Nat.zero_le _, rfl, rfl⟩⟩
      go_wp2_with (at_builtin; (refine wpList_append_any rfl _ _ 23 rfl wr.heap.size 28 i28 _ 4 32 Tryd.underlying23 hi28 hz0 hz1 hz2 rfl (by decide) _ _ _ rfl hown0 A1 R.length c1 cs rfl hcs.1 hA10 ?c1 (one_cells hcs) ?c3 ?c4 ?c5 ?c6 ?_))
      case c1 => exact fun a ha j u hj => ((hB.trans ((Vl.below_alloc wr _).mono hsz)).cell (World.block_lt_of_cell? w _ (hread a ha j u hj))).trans (hread a ha j u hj)
      case c3 => unfold maxLen; omega
      case c4 => omega
      case c5 => simp
      case c6 => exact fun h => by injection h with h; cases h
      intro r w1 hr1 hg1 hr0
      obtain ⟨g, cap, rfl⟩ : ∃ g cap, r = .slice (some ⟨g, 0, none⟩) R.length cap := by
        rcases hr1.2 with ⟨e, _⟩ | ⟨g, cap, _, e, _⟩
        · exact absurd e hr0
        · exact ⟨g, cap, e⟩
      have hk1 : ∀ k, k < wr.heap.size → w1.heap[k]? = wr.heap[k]? := by
        intro k hk
        rw [hg1.block k (by simp; omega) (by simp [Value.ownBlock]; omega), Lib.alloc_old wr _ k hk]
      have hs1 : wr.heap.size ≤ w1.heap.size := by have := hg1.size; simp at this; omega
      have hH1 := hH.kept hk1
      obtain ⟨i23, hi23, hy0, hy1, hy2⟩ := info_parts info23
      have hT1 : (T.take i).length = i := by rw [List.length_take]; omega
      go_wp2_with (at_builtin; (refine wpList_append_own _ rfl _ _ 22 rfl w.heap.size 23 i23 _ 1 24 Tryd.underlying22 hi23 hy0 hy1 hy2 rfl (by decide) _ (T.take i).length _ rfl (hH1.outer.alloc _) ⟨w1.heap.size, 0, none⟩ 1 1 [.slice (some ⟨g, 0, none⟩) R.length cap] rfl rfl ?c1 ?c2 ?c3 ?c4 ?c5 ?_))
      case c1 =>
        intro j u hj
        match j, hj with
        | 0, hj => simp at hj; subst hj; simp [Addr.add]
      case c2 => intro u hu; simp at hu; subst hu; rfl
      case c3 => unfold maxLen; omega
      case c4 => omega
      case c5 => simp; omega
      intro v' w2 hv' hg2 _
      have hP := Hd.Held.push (w1 := w1.alloc (.cells #[.slice (some ⟨g, 0, none⟩) R.length cap] 23)) hH hsz (fun k hk => by rw [Lib.alloc_old w1 _ k (by omega)]; exact hk1 k hk) (hr1.alloc _) hcs rfl (by rw [hT1]; exact hv') hg2
      have hTk : T.take i ++ [R] = T.take (i + 1) := by
        rw [← hRR, List.take_add_one, List.getD_eq_getElem?_getD, List.getElem?_eq_getElem hlt]
        rfl
      rw [hTk] at hP
      have hB2 : Below w.heap.size w w2 := (((hB.trans ((Vl.below_alloc wr _).mono hsz)).grown hg1 (by simp; omega) (fun k hk => by simp [Value.ownBlock] at hk; omega)).alloc (by omega) _).grown hg2 (by simp; omega) (fun k hk => (hH1.outer.lt k hk).1)
      go_wp2
      exact ⟨⟨i + 1, _, by simp, by omega, hP, hB2⟩, by simp only [intOf]; omega⟩
    · have hi2 : i = T.length := by omega
      subst hi2
      rw [List.take_length] at hH
      have hOk := Tc.Ok.of_small T hT hn hcnt
      obtain ⟨A3, c3, rfl, hc3, hC3⟩ := hH.reads
      obtain ⟨ks, hks⟩ := Sm.same_refl T (by omega) (fun i hi => by have := count_row T i hi; omega)
      have hK0 := Lib.hid (Kd.C_below HR.out hB)
      go_wp2_with (first | (go_at_call 4; (refine (Tc.refShow T A0 c0 _ hK0.out hc hOk (HL.out.below hB)).mono ?_); rintro e w2 ⟨rfl, hB2⟩; have hK3 := Lib.hid (Kd.C_below hC3 hB2); have hB' := hB.trans (hB2.mono hsz); have hW := hB2) | (go_at_call 5; (refine (Tc.ownShow T A3 c3 _ hK3.out hc3 hOk (HL.out.below hB')).mono ?_); rintro e w3 ⟨rfl, hB3⟩; have hK3 := Lib.hid (Kd.C_below hK3.out hB3); have hB' := hB'.trans (hB3.mono hB'.size); have hW := hW.trans (hB3.mono hW.size)) | (go_at_call 6; (refine (monikerplain_SameTrace.calls ks A3 c3 T A0 c0 T true _ hK3.out hc3 (Kd.C_below HR.out hB') hc hks).mono ?_); rintro e w4 ⟨rfl, hD4⟩; obtain ⟨nq, rfl⟩ := hD4.out; have hB' := Rq.belowN hB' nq; have hW := Rq.belowN hW nq))
      have hH4 := hH.kept (fun k hk => hW.block k hk)
      go_loopw [42] (fun v wr => ∃ i : Nat, ∃ T' : List (List S28), v = .int .i64 i ∧ i ≤ T.length ∧ T'.length = T.length ∧ Hid (∀ i, (T'.getD i []).length = (T.getD i []).length) ∧ Hid (∀ i k, i < T'.length → k < (T'.getD i []).length → Tc.Small ((T'.getD i []).getD k z28)) ∧ Hd.Held wr w.heap.size (.slice A3 T.length c3) vs T' ∧ Below w.heap.size w wr) (fun v _ => T.length - (intOf v).toNat)
      case atStart => exact ⟨0, T, rfl, Nat.zero_le _, rfl, Lib.hid (fun _ => rfl), Lib.hid hT, hH4, hB'⟩
      case round =>
        obtain ⟨i, T', rfl, hi2, hlen, hrows, hsmall, hH', hB5⟩ := hrel
        have hsz5 := hB5.size
        by_cases hlt2 : i < T.length
        · have hi' : i < T'.length := by omega
          obtain ⟨g3, rfl, hcell⟩ := held_row hH' hlen i hlt2
          obtain ⟨g, cap, cs, hv, hBg, hcap, hown, hput⟩ := hH'.store i hi'
          rw [hv] at hcell
          have hN := count_row T i hlt2
          rw [← hrows.out i] at hN
          generalize hNN : (T'.getD i []).length = N at hcell hN hcap
          go_wp2
          go_loopw [50] (fun v wr' => ∃ k : Nat, ∃ T'' : List (List S28), v = .int .i64 k ∧ k ≤ N ∧ T''.length = T.length ∧ Hid (∀ i, (T''.getD i []).length = (T.getD i []).length) ∧ Hid (∀ i k, i < T''.length → k < (T''.getD i []).length → Tc.Small ((T''.getD i []).getD k z28)) ∧ Hd.Held wr' w.heap.size (.slice (some ⟨g3, 0, none⟩) T.length c3) vs T'' ∧ Below w.heap.size w wr') (fun v _ => N - (intOf v).toNat)
          case atStart => exact ⟨0, T', rfl, Nat.zero_le _, hlen, hrows, hsmall, hH', hB5⟩
          case round =>
            obtain ⟨k, T'', rfl, hk, hlen'', hrows'', hsmall'', hH'', hB6⟩ := hrel
            by_cases hkl : k < N
            · obtain ⟨_, e3, hcell''⟩ := held_row hH'' hlen'' i hlt2
              injection e3 with e3
              injection e3 with e3
              subst e3
              obtain ⟨g'', cap'', cs'', hv'', hBg'', hcap'', hown'', hput''⟩ := hH''.store i (by omega)
              rw [hv''] at hcell''
              have hN'' : (T''.getD i []).length = N := by rw [hrows''.out, ← hrows.out, hNN]
              rw [hN''] at hcell'' hcap'' hown''
              have hfz := fun j => hown''.frozenAt j
              have hcl := hown''.1
              have hfz0 := hfz (k * 4)
              have hfz1 := hfz (k * 4 + 1)
              have hfz2 := hfz (k * 4 + 2)
              have hfz3 := hfz (k * 4 + 3)
              have hc0 := hown''.cellAt (k * 4) (by omega)
              have hc1 := hown''.cellAt (k * 4 + 1) (by omega)
              have hc2 := hown''.cellAt (k * 4 + 2) (by omega)
              have hc3 := hown''.cellAt (k * 4 + 3) (by omega)
              rw [List.getElem?_eq_getElem (by omega)] at hc0 hc1 hc2 hc3
              generalize cs''[k * 4] = u0 at hc0
              generalize cs''[k * 4 + 1] = u1 at hc1
              generalize cs''[k * 4 + 2] = u2 at hc2
              generalize cs''[k * 4 + 3] = u3 at hc3
              go_wp2
              exact ⟨⟨k + 1, _, by simp, by omega, by rw [List.length_set]; exact hlen'', Lib.hid (fun j => (set_rows T'' i k (by omega) _ j).trans (hrows''.out j)), Lib.hid (set_small T'' i k (by omega) ⟨2, false, i + 2 * k, ⟨#[]⟩⟩ (small_new i k (by omega) (by omega)) hsmall''.out), hput'' k ⟨2, false, i + 2 * k, ⟨#[]⟩⟩ (by omega), hB6.trans ((Hd.put4_below wr _ g'' k ⟨2, false, i + 2 * k, ⟨#[]⟩⟩ hBg'').mono (Nat.le_refl _))⟩, by simp only [intOf]; omega⟩
            · have : k = N := by omega
              subst this
              go_wp2
              exact ⟨⟨i + 1, T'', by simp, by omega, hlen'', hrows'', hsmall'', hH'', hB6⟩, by simp only [intOf]; omega⟩
        · have hi3 : i = T.length := by omega
          subst hi3
          obtain ⟨A4, c4, e4, hc4, hC4⟩ := hH'.reads
          injection e4 with e4 e6 e5
          clear e6
          subst e4 e5
          have hOk' := Tc.Ok.of_small T' hsmall.out (by omega) (by rw [hlen, Tc.count_congr T' T hrows.out]; exact hcnt)
          have hC5 := Lib.hid hC4
          clear hC4 hrows hsmall
          rw [hlen] at hc4
          have call5 := Tc.ownShow T' A3 c3
          have call4 := Tc.refShow T' A3 c3
          rw [hlen] at call5 call4
          rw [hlen] at hC5
          have CALL5 := Lib.hid call5
          have CALL4 := Lib.hid call4
          have HLEN := Lib.hid hlen
          clear call5 call4 hlen hi2 hlt2 hi hlt
          go_wp2_with (first | (go_at_call 5; (refine (CALL5.out _ hC5.out hc4 hOk' (HL.out.below hB5)).mono ?_); rintro e w5 ⟨rfl, hB6⟩; have hC5 := Lib.hid (Kd.C_below hC5.out hB6); have hB5 := hB5.trans (hB6.mono hB5.size); clear CALL5) | (go_at_call 4; (refine (CALL4.out _ hC5.out hc4 hOk' (HL.out.below hB5)).mono ?_); rintro e w6 ⟨rfl, hB6⟩; have hB5 := hB5.trans (hB6.mono hB5.size)) | (go_at_call 5; have hB7 := ((hB5.alloc hB5.size (.cells #[] 28)).alloc (by simp; have := hB5.size; omega) (.cells #[.slice (some ⟨w6.heap.size, 0, none⟩) 0 0] 23)); (refine (call1 w6 (HL.out.below hB7)).mono ?_); rintro e w8 ⟨rfl, hB8⟩; have hB9 := hB7.trans (hB8.mono hB7.size)))
          go_ret
          exact ⟨rfl, hB9⟩
end Go.Proofs.YtcfebjekigcolaaDoor.Lw
