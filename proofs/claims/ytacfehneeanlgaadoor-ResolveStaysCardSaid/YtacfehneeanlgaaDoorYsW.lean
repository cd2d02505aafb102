/- ResolveStays: walked. -/
import Derived.Test.YtacfehneeanlgaaDoorYsR
namespace Go.Proofs.YtacfehneeanlgaaDoor.Ev
open Go Go.RowKit Go.Shelf Go.Maps
set_option linter.unusedVariables false
set_option linter.unusedSimpArgs false
structure StepAt (n : Nat) : Prop where
  is : True
def BadY (y : List D) : Prop := rI y 1 = 1 ∧ rI y 3 ≠ 0 ∧ rI y 3 ≠ -2
instance (y : List D) : Decidable (BadY y) := inferInstanceAs (Decidable (_ ∧ _))
set_option maxRecDepth 100000 in
set_option maxHeartbeats 20000000 in
theorem stays_calls (w : World) (hG : GlobW w) (p : Option Addr) (cap : Nat) (l : List (List D)) (hL : DRel allS w (.arr keptC) (.arr l) (.slice p l.length cap))
    (ps py pr pg : Option Addr) (cs cy cr cg : Nat) (S Y R G : List (List D)) (dS : DRel allS w (.arr secC) (.arr S) (.slice ps S.length cs)) (dY : DRel allS w (.arr symC) (.arr Y) (.slice py Y.length cy)) (dR : DRel allS w (.arr relC) (.arr R) (.slice pr R.length cr)) (dG : DRel allS w (.arr grpC) (.arr G) (.slice pg G.length cg))
    (hl : Good (.arr keptC) (.arr l)) (hO : GObj S Y R G) :
    Calls Tryd.prog 4 #[.slice p l.length cap, .agg #[.slice ps S.length cs, .slice py Y.length cy, .slice pr R.length cr, .slice pg G.length cg]] w fun e W' => e = .returned (.bool true) ∧ Go.RowKit.Below w.heap.size w W' := by
  have hGn : ∀ W : World, Go.RowKit.Below w.heap.size w W → GlobW W := fun W hB => hG.below hB (fun x hx => (hG x hx).1)
  have slc : ∀ (cs' : List CT) (X : List (List D)) (q : Option Addr) (c : Nat), DRel allS w (.arr cs') (.arr X) (.slice q X.length c) → Aside (0 < X.length → ∃ b o, q = some (pl b o)) := fun cs' X q c h => by
    obtain ⟨p', cap', e1, h2⟩ := arr_slice h
    injection e1 with e1 _ _
    unfold Aside
    rw [e1]; exact h2
  have hpy := slc _ _ _ _ dY
  have hp := slc _ _ _ _ hL
  have hYl : Y.length ≤ 140737488351232 := by have := hO.y; cases this; assumption
  go_enter Tryd.func4, Tryd.ntmps4
  cases hgr : grtL l with
  | true =>
    go_wp2_with (first
      | (go_at_call 8; refine (alive_calls _ (hGn _ (below_new (Go.RowKit.Below.refl _ w) _))).mono ?_; rintro e W1 ⟨rfl, hB1⟩; have hB1' := below_then (below_new (Go.RowKit.Below.refl _ w) _) hB1 (Nat.le_refl _))
      | (go_at_call 9; refine (great_calls _ (hGn _ hB1') p _ cap l rfl (below_drel hB1' (Nat.le_refl _) hL) true hgr).mono ?_; rintro e W2 ⟨rfl, hB2⟩)
      | go_in)
    go_ret
    exact ⟨rfl, below_then hB1' hB2 (Nat.le_refl _)⟩
  | false =>
    cases h11 : decide ((11 : Int) < (l.length : Int)) with
    | true =>
      go_wp2_with (first
        | (go_at_call 8; refine (alive_calls _ (hGn _ (below_new (Go.RowKit.Below.refl _ w) _))).mono ?_; rintro e W1 ⟨rfl, hB1⟩; have hB1' := below_then (below_new (Go.RowKit.Below.refl _ w) _) hB1 (Nat.le_refl _))
        | (go_at_call 9; refine (great_calls _ (hGn _ hB1') p _ cap l rfl (below_drel hB1' (Nat.le_refl _) hL) false hgr).mono ?_; rintro e W2 ⟨rfl, hB2⟩)
        | go_in)
      go_ret
      exact ⟨rfl, below_then hB1' hB2 (Nat.le_refl _)⟩
    | false =>
      have hbox : ∀ W : World, Go.RowKit.Below (w.heap.size + 1) (w.alloc (.cells #[.slice ps S.length cs, .slice py Y.length cy, .slice pr R.length cr, .slice pg G.length cg] 35)) W → ∀ j, W.cell? ⟨w.heap.size, j, none⟩ = (#[.slice ps S.length cs, .slice py Y.length cy, .slice pr R.length cr, .slice pg G.length cg] : Array Value)[j]? := fun W hB j => (hB.cell (p := ⟨w.heap.size, j, none⟩) (by simp)).trans (World.cell?_alloc_at _ _ _ j rfl)
      cases hg0 : decide (0 < G.length) with
      | true =>
        go_wp2_with (first
          | (go_at_call 8; refine (alive_calls _ (hGn _ (below_new (Go.RowKit.Below.refl _ w) _))).mono ?_; rintro e W1 ⟨rfl, hB1⟩; have hB1' := below_then (below_new (Go.RowKit.Below.refl _ w) _) hB1 (Nat.le_refl _))
          | (go_at_call 9; refine (great_calls _ (hGn _ hB1') p _ cap l rfl (below_drel hB1' (Nat.le_refl _) hL) false hgr).mono ?_; rintro e W2 ⟨rfl, hB2⟩; have hbx := hbox W2 ((hB1.mono (by simp)).trans (hB2.mono (by have := hB1.size; simp at this; omega))))
          | go_in)
        go_ret
        exact ⟨rfl, below_then hB1' hB2 (Nat.le_refl _)⟩
      | false =>
        cases hs30 : decide ((30 : Int) < (S.length : Int)) with
        | true =>
          go_wp2_with (first
            | (go_at_call 8; refine (alive_calls _ (hGn _ (below_new (Go.RowKit.Below.refl _ w) _))).mono ?_; rintro e W1 ⟨rfl, hB1⟩; have hB1' := below_then (below_new (Go.RowKit.Below.refl _ w) _) hB1 (Nat.le_refl _))
            | (go_at_call 9; refine (great_calls _ (hGn _ hB1') p _ cap l rfl (below_drel hB1' (Nat.le_refl _) hL) false hgr).mono ?_; rintro e W2 ⟨rfl, hB2⟩; have hbx := hbox W2 ((hB1.mono (by simp)).trans (hB2.mono (by have := hB1.size; simp at this; omega))))
            | go_in)
          go_ret
          exact ⟨rfl, below_then hB1' hB2 (Nat.le_refl _)⟩
        | false =>
          go_wp2_with (first
            | (go_at_call 8; refine (alive_calls _ (hGn _ (below_new (Go.RowKit.Below.refl _ w) _))).mono ?_; rintro e W1 ⟨rfl, hB1⟩; have hB1' := below_then (below_new (Go.RowKit.Below.refl _ w) _) hB1 (Nat.le_refl _))
            | (go_at_call 9; refine (great_calls _ (hGn _ hB1') p _ cap l rfl (below_drel hB1' (Nat.le_refl _) hL) false hgr).mono ?_; rintro e W2 ⟨rfl, hB2⟩; have hbx := hbox W2 ((hB1.mono (by simp)).trans (hB2.mono (by have := hB1.size; simp at this; omega))))
            | go_in)
          have hB3 := below_then hB1' hB2 (Nat.le_refl _)
          have hw2 : w.heap.size < W2.heap.size := by have := hB1.size; have := hB2.size; simp at *; omega
          clear hB1 hB2 hB1' hbox
          go_loopw [6] (fun i wr => ∃ k : Nat, k ≤ Y.length ∧ i = .int .i64 k ∧ wr = W2 ∧ Aside (∀ j, j < k → ¬ BadY (Y.getD j [])))
            (fun i _ => Y.length - (intOf i).toNat)
          case atStart => exact ⟨0, Nat.zero_le _, rfl, rfl, fun j hj => absurd hj (by omega)⟩
          case round =>
            obtain ⟨k, hk, rfl, rfl, hbad⟩ := hrel
            obtain ⟨w4, hw4⟩ : ∃ w4, w4 = wr := ⟨_, rfl⟩
            subst hw4
            by_cases hlt : k < Y.length
            · have dY' := below_drel hB3 (Nat.le_refl _) dY
              obtain ⟨bY, oY, rfl⟩ := hpy.out (by omega)
              obtain ⟨s0, s1, s2, s3, s4, s5⟩ := sym_at dY' (by omega) k hlt
              clear s0 s2 s4 s5 dY'
              have hnx : Aside (¬ BadY (Y.getD k []) → ∀ j, j < k + 1 → ¬ BadY (Y.getD j [])) := fun h j hj => by
                by_cases e : j = k
                · rw [e]; exact h
                · exact hbad.out j (by omega)
              have hbd : Aside (BadY (Y.getD k []) ↔ (rI (Y.getD k []) 1 = 1 ∧ rI (Y.getD k []) 3 ≠ 0 ∧ rI (Y.getD k []) 3 ≠ -2)) := Iff.rfl
              generalize hx1 : rI (Y.getD k []) 1 = x1 at hbd
              generalize hx3 : rI (Y.getD k []) 3 = x3 at hbd
              rw [show ((Y.getD k []).getD 1 default).toInt = x1 from hx1] at s1
              rw [show ((Y.getD k []).getD 3 default).toInt = x3 from hx3] at s3
              clear hx1 hx3
              by_cases c1 : x1 = 1
              · subst c1
                by_cases c2 : x3 = 0
                · subst c2
                  go_wp2
                  go_roundw
                  case rel => exact ⟨k + 1, by omega, by simp, trivial, hnx.out fun h => (hbd.out.1 h).2.1 rfl⟩
                  case measure => simp [intOf]; omega
                · have c2f : (x3 == 0) = false := beq_eq_false_iff_ne.2 c2
                  by_cases c3 : x3 = -2
                  · subst c3
                    go_wp2
                    go_roundw
                    case rel => exact ⟨k + 1, by omega, by simp, trivial, hnx.out fun h => (hbd.out.1 h).2.2 rfl⟩
                    case measure => simp [intOf]; omega
                  · have c3f : (x3 == -2) = false := beq_eq_false_iff_ne.2 c3
                    go_wp2
                    · go_ret
                      exact ⟨rfl, hB3⟩
                    · exfalso
                      rename_i hx
                      first | omega | simp_all
              · have c1f : (x1 == 1) = false := beq_eq_false_iff_ne.2 c1
                go_wp2
                go_roundw
                case rel => exact ⟨k + 1, by omega, by simp, trivial, hnx.out fun h => c1 (hbd.out.1 h).1⟩
                case measure => simp [intOf]; omega
            · obtain rfl : k = Y.length := by omega
              have hS30 : S.length ≤ 30 := by have := of_decide_eq_false hs30; omega
              have hmk : ∀ W : World, (Instr.makeSlice 36 (.int .i64 (S.length : Nat)) (.int .i64 (S.length : Nat))).run Tryd.prog W = .ok (.slice (some ⟨W.heap.size, 0, none⟩) S.length S.length) (W.alloc (.cells (madeCells #[.bool false] (S.length * 1)) 4)) := fun W => by
                obtain ⟨ib, hib, hz0, hz1, hz2⟩ := info_parts (show (Tryd.prog.info? 4).map (fun i => (i.zero, i.size, i.bytes)) = some (some (.bool false), 1, 1) by kernel_rfl)
                have := run_make (P := Tryd.prog) W 36 4 ib (.bool false) Tryd.underlying36 hib hz0 .i64 .i64 (S.length : Nat) (S.length : Nat) (by omega) (by omega) (by rw [hz2]; omega) (by omega)
                rw [hz1] at this
                simpa [Value.cells] using this
              go_wp2
              have hB4 : ∀ A : Obj, Go.RowKit.Below w4.heap.size w4 (w4.alloc A) := fun A => (Go.RowKit.Below.refl _ w4).alloc (Nat.le_refl _) _
              go_loopw [8] (fun i w5 => ∃ m : Nat, m ≤ S.length ∧ i = .int .i64 m ∧ (∀ j, j < S.length → w5.cell? ⟨w4.heap.size, j, none⟩ = some (.bool (decide (j < m))) ∧ w5.frozen? ⟨w4.heap.size, j, none⟩ = false) ∧ w4.heap.size < w5.heap.size ∧ Go.RowKit.Below w4.heap.size w4 w5)
                (fun i _ => S.length - (intOf i).toNat)
              case atStart =>
                refine ⟨0, Nat.zero_le _, rfl, fun j hj => ⟨?_, World.frozen?_alloc_at _ _ _ _ rfl⟩, by simp, hB4 _⟩
                rw [World.cell?_alloc_at _ _ _ j rfl]
                have hjs : j < (madeCells #[.bool false] S.length).size := by simp [madeCells]; omega
                rw [Array.getElem?_eq_getElem hjs]
                simp [madeCells, Nat.mod_one]
              case round =>
                obtain ⟨m, hm, rfl, hmc, hms, hB5⟩ := hrel
                obtain ⟨w5, hw5⟩ : ∃ w5, w5 = wr := ⟨_, rfl⟩
                subst hw5
                by_cases hlt2 : m < S.length
                · obtain ⟨g0, f0⟩ := hmc m hlt2
                  go_wp2
                  go_roundw
                  case rel =>
                    refine ⟨m + 1, by omega, by simp, fun j hj => ⟨?_, by rw [World.frozen?_setCell]; exact (hmc j hj).2⟩, by simpa using hms, hB5.setCell (by simp) _⟩
                    by_cases e : j = m
                    · subst e
                      rw [World.cell?_setCell_same _ _ _ g0, decide_eq_true (by omega)]
                    · rw [World.cell?_setCell_other _ _ _ _ (by intro e2; injection e2 with _ e2; exact e e2.symm), (hmc j hj).1]
                      congr 3
                      exact propext ⟨fun h => by omega, fun h => by omega⟩
                  case measure => simp [intOf]; omega
                · obtain rfl : m = S.length := by omega
                  have hB6 : Go.RowKit.Below w.heap.size w w5 := hB3.trans (hB5.mono hB3.size)
                  have hbx5 : ∀ j, w5.cell? ⟨w.heap.size, j, none⟩ = (#[.slice ps S.length cs, .slice py Y.length cy, .slice pr R.length cr, .slice pg G.length cg] : Array Value)[j]? := fun j => (hB5.cell (p := ⟨w.heap.size, j, none⟩) hw2).trans (hbx j)
                  have hs5 := hB5.size
                  have hsw := hB3.size
                  obtain ⟨ib, hib, hy0, hy1, hy2⟩ := info_parts (show (Tryd.prog.info? 38).map (fun i => (i.zero, i.size, i.bytes)) = some (some (.agg #[.int .i64 0, .int .i64 0, .slice none 0 0, .slice none 0 0, .slice none 0 0, .slice none 0 0, .slice none 0 0]), 7, 136) by kernel_rfl)
                  obtain ⟨news, hnl, hone, hpn, hold⟩ := olds_of hL
                  have hl11 : l.length ≤ 11 := by have := of_decide_eq_false h11; omega
                  have hbxd : ∀ j, w5.drew.cell? ⟨w.heap.size, j, none⟩ = (#[.slice ps S.length cs, .slice py Y.length cy, .slice pr R.length cr, .slice pg G.length cg] : Array Value)[j]? := hbx5
                  go_wp2
                  have key : ∀ (w7 : World) (g2 cap2 : Nat), w7.ownsRow w5.heap.size 38 7 (.slice (some ⟨g2, 0, none⟩) (l.length + 1) cap2) (l.length + 1) (news ++ [.int .i64 0, .int .i64 (-1), .slice ps S.length cs, .slice py Y.length cy, .slice pr R.length cr, .slice pg G.length cg, .slice (some ⟨w4.heap.size, 0, none⟩) S.length S.length]) → (∀ b, b < w5.heap.size → w7.heap[b]? = w5.heap[b]?) → Go.RowKit.Below w.heap.size w w7 → DRel allS w7 (.arr keptC) (.arr (l ++ [objX S Y R G])) (.slice (some ⟨g2, 0, none⟩) (l.length + 1) cap2) := by
                    intro w7 g2 cap2 q1 q2 q3
                    obtain ⟨pm, cm, e1, e2⟩ := more_drel (x := objX S Y R G) q1 hnl (fun i j ct hi hj => by
                      obtain ⟨u, r1, r2⟩ := hold i j ct hi hj
                      exact ⟨u, r1, below_drel q3 (Nat.le_refl _) r2⟩) (fun j ct hj => by
                      match j, hj with
                      | 0, hj => simp at hj; subst hj; exact ⟨_, rfl, .int .i64 (.int 0)⟩
                      | 1, hj => simp at hj; subst hj; exact ⟨_, rfl, .int .i64 (.int (-1))⟩
                      | 2, hj => simp at hj; subst hj; exact ⟨_, rfl, below_drel q3 (Nat.le_refl _) dS⟩
                      | 3, hj => simp at hj; subst hj; exact ⟨_, rfl, below_drel q3 (Nat.le_refl _) dY⟩
                      | 4, hj => simp at hj; subst hj; exact ⟨_, rfl, below_drel q3 (Nat.le_refl _) dR⟩
                      | 5, hj => simp at hj; subst hj; exact ⟨_, rfl, below_drel q3 (Nat.le_refl _) dG⟩
                      | 6, hj => simp at hj; subst hj; exact ⟨_, rfl, marks_drel (by unfold maxLen; omega) fun j hj => (World.cell?_of_block (a := ⟨w4.heap.size, j, none⟩) (q2 _ hms)).trans (by rw [(hmc j hj).1, decide_eq_true hj])⟩
                      | j + 7, hj => simp at hj)
                    exact e2
                  have hst : StepAt 0 := ⟨trivial⟩
                  go_region_law
                    (first
                      | ((have _ := (hst : StepAt 1)); refine step_append_lies _ (by rfl) _ _ _ (by rfl) w5.heap.size 38 ib _ 7 136 Tryd.underlying22 hib hy0 hy1 hy2 rfl (by omega) v1 l.length news (by rfl) (by first | exact hown1 | exact hown1.alloc _) _ 1 1 [.int .i64 0, .int .i64 (-1), .slice ps S.length cs, .slice py Y.length cy, .slice pr R.length cr, .slice pg G.length cg, .slice (some ⟨w4.heap.size, 0, none⟩) S.length S.length] (by rfl) (by rfl) (by first | exact fun j u hj => alloc_add _ _ _ j u hj | exact fun j u hj => hg1.cell (alloc_add _ _ _ j u hj) (by simp)) (by intro u hu; simp only [List.mem_cons, List.not_mem_nil, or_false] at hu; rcases hu with rfl | rfl | rfl | rfl | rfl | rfl | rfl <;> rfl) (by omega) (by unfold maxLen; omega) (by omega) (by first | exact hs6' | (rw [World.size_alloc]; omega)) _ rfl ?_; intro g2 cap2 w7 hown2 hg2 hat2 hlt2; have hb7 : ∀ b, b < w5.heap.size → w7.heap[b]? = w5.heap[b]? := fun b hb => (hg2.block b (by first | omega | (rw [World.size_alloc]; omega)) (own_far hown1 hb)).trans (by first | exact hb6 b hb | exact (heap_push_old _ _ (by omega)).trans (hb6 b hb)))
                      | ((have _ := (hst : StepAt 0)); refine step_append_first (by rfl) _ _ _ (by rfl) w5.heap.size 38 ib _ 7 136 Tryd.underlying22 hib hy0 hy1 hy2 rfl (by omega) (by rfl) p l.length cap news (by rfl) hnl (hpn _ (fun b hb => by first | exact hB6.block b hb | exact (heap_push_old w5 _ (by omega)).trans (hB6.block b hb))) hone (by unfold maxLen; omega) (by omega) (by first | exact Nat.le_refl _ | exact (show w5.heap.size ≤ (w5.alloc _).heap.size by rw [World.size_alloc]; exact Nat.le_succ _)) ?_; intro v1 w6 hown1 hg1; replace hst : StepAt 1 := ⟨trivial⟩; have hb6 : ∀ b, b < w5.heap.size → w6.heap[b]? = w5.heap[b]? := fun b hb => (hg1.block b (by first | exact hb | exact (show b < (w5.alloc _).heap.size by rw [World.size_alloc]; exact Nat.lt_succ_of_lt hb)) (by simp)).trans (by first | exact heap_push_old w5 _ hb | rfl); have hs6 := hg1.size; have hbx6 : ∀ j, w6.cell? ⟨w.heap.size, j, none⟩ = (#[.slice ps S.length cs, .slice py Y.length cy, .slice pr R.length cr, .slice pg G.length cg] : Array Value)[j]? := fun j => (World.cell?_of_block (a := ⟨w.heap.size, j, none⟩) (hb6 _ (by show w.heap.size < w5.heap.size; omega))).trans (hbx5 j); have hs6' : w5.heap.size ≤ w6.heap.size := by first | exact hs6 | exact Nat.le_trans (show w5.heap.size ≤ (w5.alloc _).heap.size by rw [World.size_alloc]; exact Nat.le_succ _) hs6))
                  all_goals
                    have hs7 : w6.heap.size ≤ w7.heap.size := by first | exact hg2.size | exact Nat.le_trans (show w6.heap.size ≤ (w6.alloc _).heap.size by rw [World.size_alloc]; exact Nat.le_succ _) hg2.size
                    have hB7 : Go.RowKit.Below w.heap.size w w7 := ⟨hg2.os.trans (hg1.os.trans hB6.os), hg2.tape.trans (hg1.tape.trans hB6.tape), hg2.output.trans (hg1.output.trans hB6.output), Nat.le_trans hB6.size (Nat.le_trans hs6' hs7), fun i hi => (hb7 i (Nat.lt_of_lt_of_le hi hB6.size)).trans (hB6.block i hi)⟩
                    have hdm := key w7 g2 cap2 hown2 hb7 hB7
                    clear key hown2 hg2 hat2 hlt2 hb7 hs7 hown1 hg1 hb6 hs6 hs6' hbx6 hst hnl hone hpn hold hy0 hy1 hy2 hib hbxd hbx5 hmc hms hB5 hB6 hs5 hsw dS dR dG hbx
                    obtain ⟨m, hm⟩ : ∃ m, m = l ++ [objX S Y R G] := ⟨_, rfl⟩
                    rw [← hm] at hdm
                    have hlen : Aside (m.length = l.length + 1) := by unfold Aside; rw [hm, app_len]
                    have HM : Aside (m = l ++ [objX S Y R G]) := hm
                    have hgoodm : Good (.arr keptC) (.arr m) := by rw [hm]; exact good_more hl hl11 hO hS30
                    clear hm
                    have hpl := pre_of hl hgr
                    cases hgm : grtL m with
                    | true =>
                      go_wp2_with (first
                        | (go_at_call 9; refine (great_calls _ (hGn _ hB7) _ _ cap2 m hlen hdm true hgm).mono ?_; rintro e W8 ⟨rfl, hB8⟩; have hB8' := below_then hB7 hB8 (Nat.le_refl _); have hdm8 := below_drel hB8 (Nat.le_refl _) hdm; have hdl8 := below_drel hB8' (Nat.le_refl _) hL)
                        | go_in)
                      go_ret
                      exact ⟨rfl, hB8'⟩
                    | false =>
                      have hpm := pre_of hgoodm hgm
                      have hst : StepAt 0 := ⟨trivial⟩
                      obtain ⟨r, hr⟩ : ∃ r, Aside (bindE l = r) := ⟨_, rfl⟩
                      obtain ⟨r2, hr2⟩ : ∃ r, Aside (bindE m = r) := ⟨_, rfl⟩
                      by_cases h0 : r = 0
                      · subst h0
                        have he := hr
                        by_cases h1 : r2 = 0
                        · subst h1
                          have hf := hr2
                          go_wp2_with (first
                            | (go_at_call 9; refine (great_calls _ (hGn _ hB7) _ _ cap2 m hlen hdm false hgm).mono ?_; rintro e W8 ⟨rfl, hB8⟩; have hB8' := below_then hB7 hB8 (Nat.le_refl _); have hdm8 := below_drel hB8 (Nat.le_refl _) hdm; have hdl8 := below_drel hB8' (Nat.le_refl _) hL)
                            | (go_at_call 10; (have _ := (hst : StepAt 0)); refine (bind_yes _ (hGn _ hB8') _ _ cap l rfl hdl8 hpl he).mono ?_; rintro e W9 ⟨pa, ca, rfl, hda, hB9⟩; replace hst : StepAt 1 := ⟨trivial⟩; have hB9' := below_then hB8' hB9 (Nat.le_refl _); have hdm9 := below_drel hB9 (Nat.le_refl _) hdm8)
                            | (go_at_call 10; (have _ := (hst : StepAt 1)); refine (bind_yes _ (hGn _ hB9') _ _ cap2 m hlen hdm9 hpm hf).mono ?_; rintro e WA ⟨pb, cb, rfl, hdb, hBA⟩; replace hst : StepAt 2 := ⟨trivial⟩; have hBA' := below_then hB9' hBA (Nat.le_refl _))
                            | go_in)
                          have hda' := below_drel hBA (Nat.le_refl _) hda
                          have hLA := below_drel hBA' (Nat.le_refl _) hL
                          have hMl : ∀ i, i < l.length → m.getD i [] = l.getD i [] := fun i hi => by rw [HM.out]; exact app_at _ hi
                          have hst1 : ∀ n k, n < l.length → k < (rA (l.getD n []) 3).length → 0 ≤ (bndOf l n k).1 → Aside (∃ a b : Nat, bndOf l n k = ((a : Int), (b : Int)) ∧ a < l.length ∧ b < (rA (l.getD a []) 3).length ∧ ((rI (sy l a b) 1 = 0 ∨ (rI (sy l a b) 1 = 1 ∧ rI (sy l a b) 3 ≠ -2)) → bndOf m n k = bndOf l n k)) := fun n k h1 h2 h3 => by
                            unfold Aside
                            have hcl := (bindE_nil he.out).1
                            have hcm := (bindE_nil hf.out).1
                            rw [HM.out] at hcm
                            have := stays_bnd hcl hcm (by rw [← HM.out]; exact kinds_good hgoodm) (fun k' hk' => hbad.out k' hk') h1 h2 h3
                            rw [HM.out]; exact this
                          clear hda hdm hdm8 hdm9 hdl8 hB7 hB8 hB8' hB9 hB9' hBA hpl hpm hgm hgoodm hst hr hr2 hlt hlt2 hbad hB3 hw2
                          go_loopw [14] (fun i wr => ∃ n : Nat, n ≤ l.length ∧ i = .int .i64 n ∧ Go.RowKit.Below WA.heap.size WA wr)
                            (fun i _ => l.length - (intOf i).toNat)
                          case atStart => exact ⟨0, Nat.zero_le _, rfl, Go.RowKit.Below.refl _ _⟩
                          case round =>
                            obtain ⟨n, hn, rfl, hBn⟩ := hrel
                            obtain ⟨x9, hx9⟩ : ∃ x9, x9 = wr := ⟨_, rfl⟩
                            subst hx9
                            by_cases hltn : n < l.length
                            · obtain ⟨rl, hrl⟩ : ∃ rl, Aside ((rA (l.getD n []) 3).length = rl) := ⟨_, rfl⟩
                              have hrl64 : rl ≤ 64 := by have h := ((chk_read (bindE_nil he.out).1).2 n hltn).1; have h2 := hrl.out; omega
                              obtain ⟨ba, oa, qa, cqa, rfl, ha0, hda1⟩ := bnd_row (below_drel hBn (Nat.le_refl _) hda') rfl hltn hrl
                              go_wp2
                              go_loopw [15] (fun i wr => ∃ k : Nat, k ≤ rl ∧ i = .int .i64 k ∧ Go.RowKit.Below x9.heap.size x9 wr)
                                (fun i _ => rl - (intOf i).toNat)
                              case atStart => exact ⟨0, Nat.zero_le _, rfl, Go.RowKit.Below.refl _ _⟩
                              case round =>
                                obtain ⟨k, hk, rfl, hBk⟩ := hrel
                                obtain ⟨y9, hy9⟩ : ∃ y9, y9 = wr := ⟨_, rfl⟩
                                subst hy9
                                have ha0' : y9.cell? ⟨ba, oa + n, none⟩ = some (.slice qa rl cqa) := (hBk.cell (p := ⟨ba, oa + n, none⟩) (cell_lt ha0)).trans ha0
                                by_cases hltk : k < rl
                                · obtain ⟨bq, oq, rfl, c0, c1⟩ := bnd_cell (below_drel hBk (Nat.le_refl _) hda1) hrl hltk
                                  have hsx := hBk.size
                                  have hBy : Go.RowKit.Below w.heap.size w y9 := hBA'.trans ((hBn.trans (hBk.mono hBn.size)).mono hBA'.size)
                                  by_cases hneg : (bndOf l n k).1 < 0
                                  · generalize (bndOf l n k).1 = x0 at c0 hneg
                                    generalize (bndOf l n k).2 = x1 at c1
                                    have hnegf : decide (x0 < 0) = true := decide_eq_true hneg
                                    go_wp2
                                    go_roundw
                                    case rel => exact ⟨k + 1, by omega, by simp, hBk.alloc hBk.size _⟩
                                    case measure => simp [intOf]; omega
                                  · obtain ⟨a, b, e1, ha, hb, hsame⟩ := (hst1 n k hltn (by rw [hrl.out]; exact hltk) (by omega)).out
                                    have HS : Aside ((rI (sy l a b) 1 = 0 ∨ (rI (sy l a b) 1 = 1 ∧ rI (sy l a b) 3 ≠ -2)) → bndOf m n k = ((a : Int), (b : Int))) := fun h => (hsame h).trans e1
                                    rw [e1] at c0 c1
                                    dsimp only at c0 c1
                                    clear hsame e1 hneg
                                    obtain ⟨bl, ol, rfl⟩ := hp.out (by omega)
                                    obtain ⟨v2, v3, v4, v5, v6, q0, q1, q2, q3, q4, q5, q6, d2, d3, d4, d5, d6⟩ := kept_at (below_drel hBy (Nat.le_refl _) hL) (by omega) a ha
                                    clear q0 q1 q2 q4 q5 q6 d2 d4 d5 d6
                                    obtain ⟨la, hla⟩ : ∃ la, Aside ((rA (l.getD a []) 3).length = la) := ⟨_, rfl⟩
                                    obtain ⟨p3, c3, rfl, hp3⟩ := arr_slice d3
                                    obtain ⟨bs, os, rfl⟩ := hp3 (by show 0 < (rA (l.getD a []) 3).length; omega)
                                    obtain ⟨s0, s1, s2, s3, s4, s5⟩ := sym_at d3 (by show 0 < (rA (l.getD a []) 3).length; omega) b hb
                                    have e3 : (D.arr (rA (l.getD a []) 3)).toArr.length = la := hla.out
                                    rw [e3] at q3
                                    have hbla : b < la := by have := hla.out; omega
                                    obtain ⟨bb, ob, qb, cqb, rfl, hb0, hdb1⟩ := bnd_row (below_drel (hBn.trans (hBk.mono hBn.size)) (Nat.le_refl _) hdb) hlen (show n < l.length + 1 by omega) (show Aside ((rA (m.getD n []) 3).length = rl) by rw [hMl n hltn]; exact hrl)
                                    obtain ⟨bz, oz, rfl, z0, z1⟩ := bnd_cell hdb1 (show Aside ((rA (m.getD n []) 3).length = rl) by rw [hMl n hltn]; exact hrl) hltk
                                    clear d3 hp3 e3 hdb1
                                    obtain ⟨y0, hy0⟩ : ∃ y0, Aside (bndOf m n k = y0) := ⟨_, rfl⟩
                                    rw [show bndOf m n k = y0 from hy0] at z0 z1
                                    obtain ⟨u0, u1⟩ := y0
                                    dsimp only at z0 z1
                                    generalize (((rA (l.getD a []) 3).getD b []).getD 0 default).toStr = t0 at s0
                                    generalize (((rA (l.getD a []) 3).getD b []).getD 2 default).toBool = t2 at s2
                                    generalize (((rA (l.getD a []) 3).getD b []).getD 4 default).toInt = t4 at s4
                                    generalize (((rA (l.getD a []) 3).getD b []).getD 5 default).toInt = t5 at s5
                                    obtain ⟨t1, ht1⟩ : ∃ t1, Aside (rI (sy l a b) 1 = t1) := ⟨_, rfl⟩
                                    obtain ⟨t3, ht3⟩ : ∃ t3, Aside (rI (sy l a b) 3 = t3) := ⟨_, rfl⟩
                                    rw [show (((rA (l.getD a []) 3).getD b []).getD 1 default).toInt = t1 from ht1] at s1
                                    rw [show (((rA (l.getD a []) 3).getD b []).getD 3 default).toInt = t3 from ht3] at s3
                                    have q3A : ∀ A : Obj, (y9.alloc A).cell? ⟨bl, ol + a * 7 + 3, none⟩ = some (.slice (some (pl bs os)) la c3) := fun A => (World.cell?_alloc_past _ _ _ (cell_lt q3)).trans q3
                                    have q3B : ∀ A B : Obj, ((y9.alloc A).alloc B).cell? ⟨bl, ol + a * 7 + 3, none⟩ = some (.slice (some (pl bs os)) la c3) := fun A B => (World.cell?_alloc_past _ _ _ (cell_lt (q3A A))).trans (q3A A)
                                    have q3C : ∀ A : Obj, (y9.alloc A).cell? ⟨bl, ol + a * 7 + 2 + 1, none⟩ = some (.slice (some (pl bs os)) la c3) := q3A
                                    have q3D : ∀ A B : Obj, ((y9.alloc A).alloc B).cell? ⟨bl, ol + a * 7 + 2 + 1, none⟩ = some (.slice (some (pl bs os)) la c3) := q3B
                                    have s0A : ∀ A : Obj, (y9.alloc A).cell? ⟨bs, os + b * 6, none⟩ = some (.string t0) := fun A => (World.cell?_alloc_past _ _ _ (cell_lt s0)).trans s0
                                    have s0B : ∀ A B : Obj, ((y9.alloc A).alloc B).cell? ⟨bs, os + b * 6, none⟩ = some (.string t0) := fun A B => (World.cell?_alloc_past _ _ _ (cell_lt (s0A A))).trans (s0A A)
                                    have s1A : ∀ A : Obj, (y9.alloc A).cell? ⟨bs, os + b * 6 + 1, none⟩ = some (.int .u8 t1) := fun A => (World.cell?_alloc_past _ _ _ (cell_lt s1)).trans s1
                                    have s1B : ∀ A B : Obj, ((y9.alloc A).alloc B).cell? ⟨bs, os + b * 6 + 1, none⟩ = some (.int .u8 t1) := fun A B => (World.cell?_alloc_past _ _ _ (cell_lt (s1A A))).trans (s1A A)
                                    have s2A : ∀ A : Obj, (y9.alloc A).cell? ⟨bs, os + b * 6 + 2, none⟩ = some (.bool t2) := fun A => (World.cell?_alloc_past _ _ _ (cell_lt s2)).trans s2
                                    have s2B : ∀ A B : Obj, ((y9.alloc A).alloc B).cell? ⟨bs, os + b * 6 + 2, none⟩ = some (.bool t2) := fun A B => (World.cell?_alloc_past _ _ _ (cell_lt (s2A A))).trans (s2A A)
                                    have s3A : ∀ A : Obj, (y9.alloc A).cell? ⟨bs, os + b * 6 + 3, none⟩ = some (.int .i64 t3) := fun A => (World.cell?_alloc_past _ _ _ (cell_lt s3)).trans s3
                                    have s3B : ∀ A B : Obj, ((y9.alloc A).alloc B).cell? ⟨bs, os + b * 6 + 3, none⟩ = some (.int .i64 t3) := fun A B => (World.cell?_alloc_past _ _ _ (cell_lt (s3A A))).trans (s3A A)
                                    have s4A : ∀ A : Obj, (y9.alloc A).cell? ⟨bs, os + b * 6 + 4, none⟩ = some (.int .i64 t4) := fun A => (World.cell?_alloc_past _ _ _ (cell_lt s4)).trans s4
                                    have s4B : ∀ A B : Obj, ((y9.alloc A).alloc B).cell? ⟨bs, os + b * 6 + 4, none⟩ = some (.int .i64 t4) := fun A B => (World.cell?_alloc_past _ _ _ (cell_lt (s4A A))).trans (s4A A)
                                    have s5A : ∀ A : Obj, (y9.alloc A).cell? ⟨bs, os + b * 6 + 5, none⟩ = some (.int .i64 t5) := fun A => (World.cell?_alloc_past _ _ _ (cell_lt s5)).trans s5
                                    have s5B : ∀ A B : Obj, ((y9.alloc A).alloc B).cell? ⟨bs, os + b * 6 + 5, none⟩ = some (.int .i64 t5) := fun A B => (World.cell?_alloc_past _ _ _ (cell_lt (s5A A))).trans (s5A A)
                                    have hb0A : ∀ A : Obj, (y9.alloc A).cell? ⟨bb, ob + n, none⟩ = some (.slice (some (pl bz oz)) rl cqb) := fun A => (World.cell?_alloc_past _ _ _ (cell_lt hb0)).trans hb0
                                    have hb0B : ∀ A B : Obj, ((y9.alloc A).alloc B).cell? ⟨bb, ob + n, none⟩ = some (.slice (some (pl bz oz)) rl cqb) := fun A B => (World.cell?_alloc_past _ _ _ (cell_lt (hb0A A))).trans (hb0A A)
                                    have z0A : ∀ A : Obj, (y9.alloc A).cell? ⟨bz, oz + k * 2, none⟩ = some (.int .i64 u0) := fun A => (World.cell?_alloc_past _ _ _ (cell_lt z0)).trans z0
                                    have z0B : ∀ A B : Obj, ((y9.alloc A).alloc B).cell? ⟨bz, oz + k * 2, none⟩ = some (.int .i64 u0) := fun A B => (World.cell?_alloc_past _ _ _ (cell_lt (z0A A))).trans (z0A A)
                                    have z1A : ∀ A : Obj, (y9.alloc A).cell? ⟨bz, oz + k * 2 + 1, none⟩ = some (.int .i64 u1) := fun A => (World.cell?_alloc_past _ _ _ (cell_lt z1)).trans z1
                                    have z1B : ∀ A B : Obj, ((y9.alloc A).alloc B).cell? ⟨bz, oz + k * 2 + 1, none⟩ = some (.int .i64 u1) := fun A B => (World.cell?_alloc_past _ _ _ (cell_lt (z1A A))).trans (z1A A)
                                    go_wp2
                                    go_region
                                    all_goals go_wp2
                                    all_goals
                                      by_cases b0 : t1 = 0
                                      · subst b0
                                        have hu := hy0.out.symm.trans (HS.out (.inl ht1.out))
                                        injection hu with hu0 hu1
                                        subst hu0; subst hu1
                                        go_region
                                        all_goals go_wp2
                                        all_goals go_roundw
                                        all_goals first
                                          | (refine ⟨k + 1, by omega, by simp, ?_⟩; first | exact below_two hBk _ _ | exact below_dr (below_two hBk _ _) | exact below_dr (below_dr (below_two hBk _ _)))
                                          | (simp [intOf]; omega)
                                      · have b0f : (t1 == 0) = false := beq_eq_false_iff_ne.2 b0
                                        by_cases b1 : t1 = 1
                                        · subst b1
                                          by_cases b3 : t3 = -2
                                          · subst b3
                                            go_region
                                            all_goals go_wp2
                                            all_goals go_roundw
                                            all_goals first
                                              | (refine ⟨k + 1, by omega, by simp, ?_⟩; first | exact below_two hBk _ _ | exact below_dr (below_two hBk _ _) | exact below_dr (below_dr (below_two hBk _ _)))
                                              | (simp [intOf]; omega)
                                          · have b3f : (t3 == -2) = false := beq_eq_false_iff_ne.2 b3
                                            have b3n : (t3 != -2) = true := bne_iff_ne.2 b3
                                            have hu := hy0.out.symm.trans (HS.out (.inr ⟨ht1.out, by rw [ht3.out]; exact b3⟩))
                                            injection hu with hu0 hu1
                                            subst hu0; subst hu1
                                            go_region
                                            all_goals go_wp2
                                            all_goals go_roundw
                                            all_goals first
                                              | (refine ⟨k + 1, by omega, by simp, ?_⟩; first | exact below_two hBk _ _ | exact below_dr (below_two hBk _ _) | exact below_dr (below_dr (below_two hBk _ _)))
                                              | (simp [intOf]; omega)
                                        · have b1f : (t1 == 1) = false := beq_eq_false_iff_ne.2 b1
                                          go_region
                                          all_goals go_wp2
                                          all_goals go_roundw
                                          all_goals first
                                            | (refine ⟨k + 1, by omega, by simp, ?_⟩; first | exact below_two hBk _ _ | exact below_dr (below_two hBk _ _) | exact below_dr (below_dr (below_two hBk _ _)))
                                            | (simp [intOf]; omega)
                                · obtain rfl : k = rl := by omega
                                  go_wp2
                                  go_roundw
                                  case rel => exact ⟨n + 1, by omega, by simp, hBn.trans (hBk.mono hBn.size)⟩
                                  case measure => simp [intOf]; omega
                            · obtain rfl : n = l.length := by omega
                              go_wp2
                              go_ret
                              exact ⟨rfl, hBA'.trans (hBn.mono hBA'.size)⟩
                        · have h1f : (r2 == 0) = false := beq_eq_false_iff_ne.2 h1
                          go_wp2_with (first
                            | (go_at_call 9; refine (great_calls _ (hGn _ hB7) _ _ cap2 m hlen hdm false hgm).mono ?_; rintro e W8 ⟨rfl, hB8⟩; have hB8' := below_then hB7 hB8 (Nat.le_refl _); have hdm8 := below_drel hB8 (Nat.le_refl _) hdm; have hdl8 := below_drel hB8' (Nat.le_refl _) hL)
                            | (go_at_call 10; (have _ := (hst : StepAt 0)); refine (bind_yes _ (hGn _ hB8') _ _ cap l rfl hdl8 hpl he).mono ?_; rintro e W9 ⟨pa, ca, rfl, hda, hB9⟩; replace hst : StepAt 1 := ⟨trivial⟩; have hB9' := below_then hB8' hB9 (Nat.le_refl _); have hdm9 := below_drel hB9 (Nat.le_refl _) hdm8)
                            | (go_at_call 10; (have _ := (hst : StepAt 1)); refine (bind_no _ (hGn _ hB9') _ _ cap2 m hlen hdm9 hpm r2 hr2).mono ?_; rintro e WA ⟨vb, rfl, hBA⟩; replace hst : StepAt 2 := ⟨trivial⟩; have hBA' := below_then hB9' hBA (Nat.le_refl _))
                            | go_in)
                          go_ret
                          exact ⟨rfl, hBA'⟩
                      · have h0f : (r == 0) = false := beq_eq_false_iff_ne.2 h0
                        go_wp2_with (first
                          | (go_at_call 9; refine (great_calls _ (hGn _ hB7) _ _ cap2 m hlen hdm false hgm).mono ?_; rintro e W8 ⟨rfl, hB8⟩; have hB8' := below_then hB7 hB8 (Nat.le_refl _); have hdm8 := below_drel hB8 (Nat.le_refl _) hdm; have hdl8 := below_drel hB8' (Nat.le_refl _) hL)
                          | (go_at_call 10; (have _ := (hst : StepAt 0)); refine (bind_no _ (hGn _ hB8') _ _ cap l rfl hdl8 hpl r hr).mono ?_; rintro e W9 ⟨va, rfl, hB9⟩; replace hst : StepAt 1 := ⟨trivial⟩; have hB9' := below_then hB8' hB9 (Nat.le_refl _); have hdm9 := below_drel hB9 (Nat.le_refl _) hdm8)
                          | (go_at_call 10; (have _ := (hst : StepAt 1)); refine (bind_no _ (hGn _ hB9') _ _ cap2 m hlen hdm9 hpm r2 hr2).mono ?_; rintro e WA ⟨vb, rfl, hBA⟩; replace hst : StepAt 2 := ⟨trivial⟩; have hBA' := below_then hB9' hBA (Nat.le_refl _))
                          | go_in)
                        go_ret
                        exact ⟨rfl, hBA'⟩
end Go.Proofs.YtacfehneeanlgaaDoor.Ev
