/- resolve.Check, walked: the three loops. -/
import Derived.Test.YtacfehneeanlgaaDoorRtC
namespace Go.Proofs.YtacfehneeanlgaaDoor.Ev
open Go Go.RowKit Go.Shelf Go.Maps
set_option linter.unusedVariables false
set_option linter.unusedSimpArgs false
set_option maxRecDepth 100000 in
set_option maxHeartbeats 4000000 in
theorem check_calls (w : World) (hG : GlobW w) (p : Option Addr) (cap : Nat) (L : List (List D)) (hL : DRel allS w (.arr keptC) (.arr L) (.slice p L.length cap)) (hl : L.length ≤ 1048576)
    (hk : ∀ i, i < L.length → pChkO [.agg [.arr secC (rA (L.getD i []) 2), .arr symC (rA (L.getD i []) 3), .arr relC (rA (L.getD i []) 4), .arr grpC (rA (L.getD i []) 5)]] = true ∧ (rA (L.getD i []) 6).length ≤ 1048576) :
    Calls Tryd.prog 19 #[.slice p L.length cap] w fun e W' => e = .returned (.int .i64 (if chkL L = true then 0 else 8)) ∧ Go.RowKit.Below w.heap.size w W' := by
  have hp : 0 < L.length → ∃ b o, p = some (pl b o) := by
    obtain ⟨p', cap', e1, h2⟩ := arr_slice hL
    injection e1 with e1 _ _
    rw [e1]; exact h2
  have hmm := @run_makeMap Tryd.prog
  obtain ⟨r, hr⟩ : ∃ r : Int, r = (if chkL L = true then 0 else 8) := ⟨_, rfl⟩
  rw [← hr]
  have HR : Aside (r = (if chkL L = true then 0 else 8)) := hr
  clear hr
  go_enter Tryd.func19, Tryd.ntmps19
  by_cases h64 : L.length ≤ 64
  case neg =>
    go_wp2
    all_goals go_ret
    all_goals refine ⟨?_, Go.RowKit.Below.refl _ w⟩
    all_goals rw [HR.out]; simp [chkL, h64]
  go_wp2
  go_loopw [17] (fun i wr => ∃ (k : Nat) (A : DataW Unit), k ≤ L.length ∧ i = .int .i64 k ∧ (∀ j, j < k → keptOk L j = true) ∧ wr.ownsMap Tryd.prog 9 (plainElem Tryd.prog 3) w.heap.size (16 * k) A ∧ SgnIs A (sgnAll L k) ∧ Go.RowKit.Below w.heap.size w wr)
    (fun i _ => L.length - (intOf i).toNat)
  case atStart =>
    refine ⟨0, .map [], Nat.zero_le _, rfl, fun j hj => absurd hj (by omega), ?_, .start, ?_⟩
    · exact World.ownsMap_made (H := Unit) w Tryd.prog 9 (plainElem Tryd.prog 3)
    · exact (Go.RowKit.Below.refl _ w).alloc (Nat.le_refl _) _
  case round =>
    obtain ⟨k, A, hk0, rfl, hok, hA, hS, hB⟩ := hrel
    obtain ⟨w1, hw1⟩ : ∃ w1, w1 = wr := ⟨_, rfl⟩
    subst hw1
    by_cases hlt : k < L.length
    · have hLn : 0 < L.length := by omega
      obtain ⟨b, o, rfl⟩ := hp hLn
      obtain ⟨v2, v3, v4, v5, v6, q0, q1, q2, q3, q4, q5, q6, d2, d3, d4, d5, d6⟩ := kept_at hL hLn k hlt
      obtain ⟨p2, c2, rfl, -⟩ := arr_slice d2
      obtain ⟨p3, c3, rfl, -⟩ := arr_slice d3
      obtain ⟨p4, c4, rfl, -⟩ := arr_slice d4
      obtain ⟨p5, c5, rfl, hp5⟩ := arr_slice d5
      obtain ⟨p6, c6, rfl, -⟩ := arr_slice d6
      simp only [D.toArr] at q2 q3 q4 q5 q6 d2 d3 d4 d5 d6 hp5
      have hbw : b < w.heap.size := cell_lt q0
      replace q0 := (hB.cell (p := ⟨b, o + k * 7, none⟩) hbw).trans q0
      replace q1 := (hB.cell (p := ⟨b, o + k * 7 + 1, none⟩) hbw).trans q1
      replace q2 := (hB.cell (p := ⟨b, o + k * 7 + 2, none⟩) hbw).trans q2
      replace q3 := (hB.cell (p := ⟨b, o + k * 7 + 3, none⟩) hbw).trans q3
      replace q4 := (hB.cell (p := ⟨b, o + k * 7 + 4, none⟩) hbw).trans q4
      replace q5 := (hB.cell (p := ⟨b, o + k * 7 + 5, none⟩) hbw).trans q5
      replace q6 := (hB.cell (p := ⟨b, o + k * 7 + 6, none⟩) hbw).trans q6
      obtain ⟨hk1, hk2⟩ := hk k hlt
      have hE : ∃ E, E = L.getD k [] := ⟨_, rfl⟩
      obtain ⟨E, hE⟩ := hE
      rw [← hE] at q0 q1 q2 q3 q4 q5 q6 d2 d3 d4 d5 d6 hp5 hk1 hk2
      generalize (E.getD 0 default).toInt = i0 at q0
      generalize (E.getD 1 default).toInt = i1 at q1
      have HE : Aside (E = L.getD k []) := hE
      clear hE
      obtain ⟨S, hSe⟩ : ∃ S, S = rA E 2 := ⟨_, rfl⟩
      obtain ⟨Y, hYe⟩ : ∃ Y, Y = rA E 3 := ⟨_, rfl⟩
      obtain ⟨R, hRe⟩ : ∃ R, R = rA E 4 := ⟨_, rfl⟩
      obtain ⟨G, hGe⟩ : ∃ G, G = rA E 5 := ⟨_, rfl⟩
      obtain ⟨B, hBe⟩ : ∃ B, B = rA E 6 := ⟨_, rfl⟩
      rw [← hSe] at q2 d2 hk1
      rw [← hYe] at q3 d3 hk1
      rw [← hRe] at q4 d4 hk1
      rw [← hGe] at q5 d5 hp5 hk1
      rw [← hBe] at q6 d6 hk2
      have HK : Aside (keptOk L k = (chkB S Y R G && (decide (B.length = S.length) && decide ((grpSt k G G.length (sgnAll L k, List.replicate B.length true)).2 = boolsOf B)))) := by unfold Aside keptOk; rw [← HE.out, ← hSe, ← hYe, ← hRe, ← hGe, ← hBe]
      have HN : Aside (sgnAll L (k + 1) = (grpSt k G G.length (sgnAll L k, List.replicate B.length true)).1) := by unfold Aside; rw [sgnAll_succ, ← HE.out, ← hGe, ← hBe]
      clear hSe hYe hRe hGe hBe HE
      have HB : Aside (keptOk L k = false → r = 8) := fun hf => by
        rw [HR.out, if_neg]
        intro h
        simp only [chkL, Bool.and_eq_true, decide_eq_true_eq, List.all_eq_true, List.mem_range] at h
        have := h.2 k hlt
        rw [hf] at this; cases this
      have hG1 : GlobW w1 := hG.below hB (fun x hx => (hG x hx).1)
      have hB1 : ∀ C : Obj, Go.RowKit.Below w1.heap.size w1 (w1.alloc C) := fun C => (Go.RowKit.Below.refl _ w1).alloc (Nat.le_refl _) C
      have hgA : ∀ C : Obj, GlobW (w1.alloc C) := fun C => hG1.below (hB1 C) (fun x hx => (hG1 x hx).1)
      have hcal : ∀ C : Obj, Calls Tryd.prog 25 #[.agg #[.slice p2 S.length c2, .slice p3 Y.length c3, .slice p4 R.length c4, .slice p5 G.length c5]] (w1.alloc C) fun e W' => e = .returned (.int .i64 (if chkB S Y R G = true then 0 else 8)) ∧ Go.RowKit.Below (w1.alloc C).heap.size (w1.alloc C) W' := fun C =>
        chk_calls _ (hgA C) _ _ _ _ _ _ _ _ (below_drel (hB.trans ((hB1 C).mono hB.size)) (Nat.le_refl _) d2) (below_drel (hB.trans ((hB1 C).mono hB.size)) (Nat.le_refl _) d3) (below_drel (hB.trans ((hB1 C).mono hB.size)) (Nat.le_refl _) d4) (below_drel (hB.trans ((hB1 C).mono hB.size)) (Nat.le_refl _) d5) hk1
      have hB3f : ∀ (C : Obj) (W3 : World), Go.RowKit.Below (w1.alloc C).heap.size (w1.alloc C) W3 → Go.RowKit.Below w1.heap.size w1 W3 := fun C W3 h => (hB1 C).trans (h.mono (hB1 C).size)
      by_cases hc : chkB S Y R G = true
      case neg =>
        go_wp2_with (first
          | (go_at_call 25; refine (hcal _).mono ?_; rintro e W3 ⟨rfl, hB3⟩; rw [if_neg hc])
          | go_in)
        all_goals go_ret
        all_goals refine ⟨?_, hB.trans ((hB3f _ _ hB3).mono hB.size)⟩
        all_goals rw [HB.out (by rw [HK.out]; simp [hc])]; rfl
      by_cases hlen : B.length = S.length
      case neg =>
        have hlf : ((B.length : Int) == (S.length : Int)) = false := beq_eq_false_iff_ne.2 (by omega)
        go_wp2_with (first
          | (go_at_call 25; refine (hcal _).mono ?_; rintro e W3 ⟨rfl, hB3⟩; rw [if_pos hc]; have h5 : ∀ j, W3.cell? ⟨w1.heap.size, j, none⟩ = (#[.int .i64 i0, .int .i64 i1, .slice p2 S.length c2, .slice p3 Y.length c3, .slice p4 R.length c4, .slice p5 G.length c5, .slice p6 B.length c6] : Array Value)[j]? := fun j => (hB3.cell (p := ⟨w1.heap.size, j, none⟩) (by simp)).trans (World.cell?_alloc_at _ _ _ j rfl))
          | go_in)
        all_goals go_ret
        all_goals refine ⟨?_, hB.trans ((hB3f _ _ hB3).mono hB.size)⟩
        all_goals rw [HB.out (by rw [HK.out]; simp [hlen])]; rfl
      obtain ⟨gk1, gk2, gk3⟩ := chk_grp hc
      have hlt' : ((B.length : Int) == (S.length : Int)) = true := by simp [hlen]
      have hB16 : B.length ≤ 16 := by omega
      have HL : Aside (B.length = S.length) := hlen
      clear hlen
      go_wp2_with (first
          | (go_at_call 25; refine (hcal _).mono ?_; rintro e W3 ⟨rfl, hB3⟩; rw [if_pos hc]; have h5 : ∀ j, W3.cell? ⟨w1.heap.size, j, none⟩ = (#[.int .i64 i0, .int .i64 i1, .slice p2 S.length c2, .slice p3 Y.length c3, .slice p4 R.length c4, .slice p5 G.length c5, .slice p6 B.length c6] : Array Value)[j]? := fun j => (hB3.cell (p := ⟨w1.heap.size, j, none⟩) (by simp)).trans (World.cell?_alloc_at _ _ _ j rfl); have hB3' := hB3f _ _ hB3
             have hs13 : w1.heap.size < W3.heap.size := Nat.lt_of_lt_of_le (by simp) hB3.size
             have h5a : ∀ (C : Obj) (j : Nat), (W3.alloc C).cell? ⟨w1.heap.size, j, none⟩ = (#[.int .i64 i0, .int .i64 i1, .slice p2 S.length c2, .slice p3 Y.length c3, .slice p4 R.length c4, .slice p5 G.length c5, .slice p6 B.length c6] : Array Value)[j]? := fun C j => (World.cell?_alloc_past _ _ j hs13).trans (h5 j))
          | (go_at_call 26; 
             have hBc : ∀ C, Go.RowKit.Below W3.heap.size W3 (W3.alloc C) := fun C => (Go.RowKit.Below.refl _ W3).alloc (Nat.le_refl _) C
             have hG3 : GlobW W3 := hG1.below hB3' (fun x hx => (hG1 x hx).1)
             refine (rep_calls _ (hG3.below (hBc _) (fun x hx => (hG3 x hx).1)) _ B.length hB16 (World.cell?_alloc_at _ _ _ 0 rfl)).mono ?_
             rintro e W5 ⟨pT, bT, cT, rfl, hpT, hbT, hcT, hB5⟩
             have h6 : ∀ j, W5.cell? ⟨w1.heap.size, j, none⟩ = (#[.int .i64 i0, .int .i64 i1, .slice p2 S.length c2, .slice p3 Y.length c3, .slice p4 R.length c4, .slice p5 G.length c5, .slice p6 B.length c6] : Array Value)[j]? := fun j =>
               (((hBc _).trans (hB5.mono (hBc _).size)).cell (p := ⟨w1.heap.size, j, none⟩) (Nat.lt_of_lt_of_le (by simp) hB3.size)).trans (h5 j)
             have hB15 : Go.RowKit.Below w1.heap.size w1 W5 := hB3'.trans (((hBc _).trans (hB5.mono (hBc _).size)).mono hB3'.size)
             have hsz5 : w1.heap.size < W5.heap.size := Nat.lt_of_lt_of_le (Nat.lt_of_lt_of_le (by simp) hB3.size) (((hBc _).trans (hB5.mono (hBc _).size)).size)
             have hb1T : w1.heap.size < bT := Nat.lt_of_lt_of_le (Nat.lt_of_lt_of_le (by simp) hB3.size) (Nat.le_trans (hBc _).size hbT))
          | go_in)
      go_loopw [45] (fun i w2 => ∃ (n : Nat) (A' : DataW Unit) (t : List Bool), n ≤ G.length ∧ i = .int .i64 n ∧ w2.ownsMap Tryd.prog 9 (plainElem Tryd.prog 3) w.heap.size (16 * k + n) A' ∧ SgnIs A' (grpSt k G n (sgnAll L k, List.replicate B.length true)).1 ∧ Aside (t = (grpSt k G n (sgnAll L k, List.replicate B.length true)).2) ∧
          (∀ j, j < B.length → w2.cell? ⟨bT, j, none⟩ = some (.bool (t.getD j false)) ∧ w2.frozen? ⟨bT, j, none⟩ = false) ∧
          (∀ j, w2.cell? ⟨w1.heap.size, j, none⟩ = (#[.int .i64 i0, .int .i64 i1, .slice p2 S.length c2, .slice p3 Y.length c3, .slice p4 R.length c4, .slice p5 G.length c5, .slice p6 B.length c6] : Array Value)[j]?) ∧ w1.heap.size < w2.heap.size ∧ Go.RowKit.Below w.heap.size w w2)
          (fun i _ => G.length - (intOf i).toNat)
      case atStart =>
        refine ⟨0, A, List.replicate B.length true, Nat.zero_le _, rfl, (hA.kept (below_full hB15 (Nat.le_refl _)) (by simp)).mono (by omega), hS, rfl, fun j hj => ⟨?_, (hcT j hj).2⟩, h6, hsz5, hB.trans (hB15.mono hB.size)⟩
        rw [(hcT j hj).1]; simp [List.getD_eq_getElem?_getD, hj]
      case round =>
        obtain ⟨n, A1, t, hn0, rfl, hA1, hS1, HT, hcT1, h61, hsz1, hB'⟩ := hrel
        obtain ⟨w2, hw2⟩ : ∃ w2, w2 = wr := ⟨_, rfl⟩
        subst hw2
        clear h5 h5a hcal hgA hB1 hB3f h6 hcT hB3 hB3' hB5 hs13 hsz5
        by_cases hlt2 : n < G.length
        · obtain ⟨b5, o5, rfl⟩ := hp5 (by omega)
          obtain ⟨gk4, gk5⟩ := gk3 n hlt2
          obtain ⟨v1, g0, g1, gd⟩ := grp_at d5 (by omega) n hlt2
          obtain ⟨p1, c1, rfl, hp1⟩ := arr_slice gd
          simp only [D.toArr] at g1 gd hp1
          have hb5 : b5 < w.heap.size := cell_lt g0
          replace g0 := (hB'.cell (p := ⟨b5, o5 + n * 2, none⟩) hb5).trans g0
          replace g1 := (hB'.cell (p := ⟨b5, o5 + n * 2 + 1, none⟩) hb5).trans g1
          have hNl : (rA (G.getD n []) 1).length ≤ 1048576 := by
            simp only [pChkO, Bool.and_eq_true, decide_eq_true_eq] at hk1
            have h2 := hk1.2
            simp only [lensOk, List.all_eq_true, decide_eq_true_eq] at h2
            exact h2 _ (by rw [List.getD_eq_getElem?_getD, List.getElem?_eq_getElem hlt2]; exact List.getElem_mem hlt2)
          obtain ⟨g, hge⟩ : ∃ g, g = G.getD n [] := ⟨_, rfl⟩
          rw [← hge] at gk4 gk5 g0 g1 gd hp1 hNl
          obtain ⟨N, hNe⟩ : ∃ N, N = rA g 1 := ⟨_, rfl⟩
          rw [← hNe] at gk5 g1 gd hp1 hNl
          obtain ⟨nm, hnm⟩ : ∃ nm, nm = rN g := ⟨_, rfl⟩
          have e0 : (g.getD 0 default).toStr = nm := hnm.symm
          rw [e0] at g0
          rw [← hnm] at gk4
          obtain ⟨σ, hσ⟩ : ∃ σ, σ = (grpSt k G n (sgnAll L k, List.replicate B.length true)).1 := ⟨_, rfl⟩
          rw [← hσ] at hS1
          obtain ⟨σ', hσ'⟩ : ∃ σ', σ' = sgnG k g σ := ⟨_, rfl⟩
          have HST : Aside (grpSt k G (n + 1) (sgnAll L k, List.replicate B.length true) = (σ', mkN (decide (σ' nm = (k : Int) + 1)) N N.length t)) := by
            unfold Aside; rw [grpSt_succ, grpStep, ← hge, ← hσ, ← hσ', ← hNe, ← hnm, ← HT.out]
          have htl : t.length = B.length := by rw [HT.out, grpSt_len]; simp
          have HSG : Aside (∀ s, σ' s = if nm = s ∧ σ s = 0 then (k : Int) + 1 else σ s) := fun s => by rw [hσ', sgnG, ← hnm]
          have hcv : Aside (∀ c, A1.atKey (strK nm) (.lit (.int .i64 0)) = .lit (.int .i64 c) → c = σ nm) := fun c h => by
            rw [hS1.at_] at h; simp only [DataW.lit.injEq, Lit.int.injEq, true_and] at h; exact h.symm
          have hmx : nm.size ≤ maxLen := by unfold maxLen; omega
          have hkey : keyOf Tryd.prog 9 (.string nm) = some (strK nm) := WideMaps.keyOf_string_mk Tryd.underlying9 hmx
          have HW : Aside (Go.RowKit.wrap64 ((k : Int) + 1) = (k : Int) + 1) := by unfold Aside Go.RowKit.wrap64; omega
          have hnk : 16 * k + n < maxLen := by unfold maxLen; omega
          have hwl := hA1.lt
          clear hge hNe hnm hσ hσ' e0
          by_cases hz : σ nm = 0
          case neg =>
            have hzf : (σ nm == 0) = false := beq_eq_false_iff_ne.2 hz
            go_wp2_with (first
              | (at_lookup; refine wpList_lookup_own_int _ rfl _ _ 56 rfl 9 3 .i64 str_law Tryd.underlying56 Tryd.underlying3 (zero_int _) _ _ A1 rfl (hA1.alloc _) _ _ rfl hkey ?_; intro c hat hwc; obtain rfl := hcv.out c hat)
              | go_in)
            have hS6 : SgnIs A1 σ' := hS1.congr (fun s => by
              rw [HSG.out]
              by_cases e : nm = s
              · subst e; rw [if_neg (fun h => hz h.2)]
              · rw [if_neg (fun h => e h.1)])
            have hB6 : Go.RowKit.Below w2.heap.size w2 (w2.alloc (Obj.cells #[.string nm, .slice p1 N.length c1] 68)) := (Go.RowKit.Below.refl _ w2).alloc (Nat.le_refl _) _
            have g6 : ∀ j, (w2.alloc (Obj.cells #[.string nm, .slice p1 N.length c1] 68)).cell? ⟨w2.heap.size, j, none⟩ = (#[.string nm, .slice p1 N.length c1] : Array Value)[j]? := fun j => World.cell?_alloc_at _ _ _ j rfl
            have hA6 := (hA1.alloc (Obj.cells #[.string nm, .slice p1 N.length c1] 68)).mono (n' := 16 * k + n + 1) (by omega)
            have sz6 : w2.heap.size < (w2.alloc (Obj.cells #[.string nm, .slice p1 N.length c1] 68)).heap.size := by simp
            have e6 : ∀ bb, bb < w2.heap.size → bb ≠ w.heap.size → (w2.alloc (Obj.cells #[.string nm, .slice p1 N.length c1] 68)).heap[bb]? = w2.heap[bb]? := fun bb h1 _ => hB6.block bb h1
            have B6 := hB'.trans (hB6.mono hB'.size)
            generalize w2.alloc (Obj.cells #[.string nm, .slice p1 N.length c1] 68) = W6 at *
            obtain ⟨A6, hA6, hS6⟩ : ∃ A6, W6.ownsMap Tryd.prog 9 (plainElem (H := Unit) Tryd.prog 3) w.heap.size (16 * k + n + 1) A6 ∧ SgnIs A6 σ' := ⟨_, hA6, hS6⟩
            clear hz hzf
            have k6 : ∀ bb j, bb < w2.heap.size → bb ≠ w.heap.size → W6.cell? ⟨bb, j, none⟩ = w2.cell? ⟨bb, j, none⟩ := fun bb j h1 h2 => World.cell?_of_block (a := ⟨bb, j, none⟩) (e6 bb h1 h2)
            have z6 : ∀ bb j, bb < w2.heap.size → bb ≠ w.heap.size → W6.frozen? ⟨bb, j, none⟩ = w2.frozen? ⟨bb, j, none⟩ := fun bb j h1 h2 => by simp only [World.frozen?, e6 bb h1 h2]
            have hcv6 : Aside (∀ c, A6.atKey (strK nm) (.lit (.int .i64 0)) = .lit (.int .i64 c) → c = σ' nm) := fun c h => by
              rw [hS6.at_] at h; simp only [DataW.lit.injEq, Lit.int.injEq, true_and] at h; exact h.symm
            have hw1w : w.heap.size < w1.heap.size := hA.lt
            have hTw : ∀ j, j < B.length → bT < w2.heap.size := fun j hj => cell_lt (hcT1 j hj).1
            go_loopw [62] (fun i w3 => ∃ (m : Nat) (t' : List Bool), m ≤ N.length ∧ i = .int .i64 m ∧ w3.ownsMap Tryd.prog 9 (plainElem Tryd.prog 3) w.heap.size (16 * k + n + 1) A6 ∧ Aside (t' = mkN (decide (σ' nm = (k : Int) + 1)) N m t) ∧ t'.length = B.length ∧
                (∀ j, j < B.length → w3.cell? ⟨bT, j, none⟩ = some (.bool (t'.getD j false)) ∧ w3.frozen? ⟨bT, j, none⟩ = false) ∧
                (∀ j, w3.cell? ⟨w1.heap.size, j, none⟩ = (#[.int .i64 i0, .int .i64 i1, .slice p2 S.length c2, .slice p3 Y.length c3, .slice p4 R.length c4, .slice (some (pl b5 o5)) G.length c5, .slice p6 B.length c6] : Array Value)[j]?) ∧
                (∀ j, w3.cell? ⟨w2.heap.size, j, none⟩ = (#[.string nm, .slice p1 N.length c1] : Array Value)[j]?) ∧ w2.heap.size < w3.heap.size ∧ Go.RowKit.Below w.heap.size w w3)
                (fun i _ => N.length - (intOf i).toNat)
            case atStart =>
              refine ⟨0, t, Nat.zero_le _, rfl, hA6, rfl, htl, fun j hj => ⟨(k6 bT j (hTw j hj) (by omega)).trans (hcT1 j hj).1, (z6 bT j (hTw j hj) (by omega)).trans (hcT1 j hj).2⟩, fun j => (k6 _ j hsz1 (by omega)).trans (h61 j), g6, sz6, B6⟩
            case round =>
              obtain ⟨m, t', hm0, rfl, hA7, HT', htl', hcT7, h67, g7, sz7, B7⟩ := hrel
              obtain ⟨w3, hw3⟩ : ∃ w3, w3 = wr := ⟨_, rfl⟩
              subst hw3
              by_cases hlt3 : m < N.length
              · have hx1 := gk5 m hlt3
                obtain ⟨b1, o1, rfl⟩ := hp1 (by omega)
                have hnx := num_at (below_drel B7 (Nat.le_refl _) gd) (by omega) m hlt3
                obtain ⟨q, hq⟩ : ∃ q : Nat, rI (N.getD m []) 0 = (q : Int) + 1 := ⟨(rI (N.getD m []) 0 - 1).toNat, by omega⟩
                have hqB : q < B.length := by have := HL.out; omega
                have HQ : Aside (rI (N.getD m []) 0 = (q : Int) + 1) := hq
                rw [hq] at hnx hx1
                clear hq
                rcases hpT with ⟨rfl, hT1, hT2⟩ | ⟨_, h0, _⟩
                case inr => omega
                have hqi : (q : Int) < (B.length : Int) := by omega
                have hq0 : (0 : Int) ≤ (q : Int) := Int.natCast_nonneg _
                have hwq : Go.RowKit.wrap64 (q : Int) = (q : Int) := by unfold Go.RowKit.wrap64; omega
                obtain ⟨cq, zq⟩ := hcT7 q hqB
                go_wp2_with (first
                  | (at_lookup; refine wpList_lookup_own_int _ rfl _ _ 56 rfl 9 3 .i64 str_law Tryd.underlying56 Tryd.underlying3 (zero_int _) _ _ A6 rfl hA7 _ _ rfl hkey ?_; intro c hat hwc; obtain rfl := hcv6.out c hat)
                  | go_in)
                go_roundw
                case rel =>
                  have hb2w : bT < w2.heap.size := hTw q hqB
                  have hne1 : w1.heap.size ≠ bT := Nat.ne_of_lt hb1T
                  have hne2 : w2.heap.size ≠ bT := Nat.ne_of_gt hb2w
                  have hne3 : w.heap.size ≠ bT := Nat.ne_of_lt (Nat.lt_trans hw1w hb1T)
                  exact ⟨m + 1, t'.set q (σ' nm == (k : Int) + 1), hlt3, rfl, hA7.setCell hne3 _, mk_set HT'.out HQ.out, List.length_set.trans htl', there_set htl' hqB cq hcT7, fun j => (far_set hne1 _ j).trans (h67 j), fun j => (far_set hne2 _ j).trans (g7 j), Nat.lt_of_lt_of_eq sz7 (World.size_setCell ..).symm, B7.setCell (Nat.le_of_lt (Nat.lt_trans hw1w hb1T)) _⟩
                case measure => simp [intOf]; omega
              · obtain rfl : m = N.length := by omega
                go_wp2
                go_roundw
                case rel =>
                  refine ⟨n + 1, A6, t', by omega, by simp, hA7.mono (by omega), ?_, ?_, hcT7, h67, Nat.lt_trans hsz1 sz7, B7⟩
                  · exact hS6.congr (fun s => by rw [HST.out])
                  · unfold Aside; rw [HST.out]; exact HT'.out
                case measure => simp [intOf]; omega
          case pos =>
            have hzt : (σ nm == 0) = true := by rw [hz]; rfl
            have HZ : Aside (σ nm = 0) := hz
            have hwfk : (Lit.int .i64 ((k : Int) + 1)).wf = true := by have h := wrap64_wf ((k : Int) + 1); rw [HW.out] at h; exact h
            clear hz
            go_wp2_with (first
              | (at_lookup; refine wpList_lookup_own_int _ rfl _ _ 56 rfl 9 3 .i64 str_law Tryd.underlying56 Tryd.underlying3 (zero_int _) _ _ A1 rfl (hA1.alloc _) _ _ rfl hkey ?_; intro c hat hwc; obtain rfl := hcv.out c hat)
              | (at_mapUpdate; refine wpList_mapUpdate_own _ rfl _ _ _ 56 rfl 9 3 str_law Tryd.underlying56 _ _ _ A1 rfl (hA1.alloc _) hnk _ _ _ rfl rfl hkey _ [] (plainElem_int Tryd.underlying3 hwfk) ?_; intro W6 hA6 hg6
                 have g6 : ∀ j, W6.cell? ⟨w2.heap.size, j, none⟩ = (#[.string nm, .slice p1 N.length c1] : Array Value)[j]? := fun j => (World.cell?_of_block (a := ⟨w2.heap.size, j, none⟩) (hg6.block _ (by simp) (by simp; omega))).trans (World.cell?_alloc_at _ _ _ j rfl)
                 go_frame)
              | go_in)
            have hS6 : SgnIs (A1.put (strK nm) (.lit (.int .i64 ((k : Int) + 1)))) σ' := hS1.put nm _ (fun s => by
              rw [HSG.out]
              by_cases e : nm = s
              · subst e; rw [if_pos ⟨rfl, HZ.out⟩, if_pos rfl]
              · rw [if_neg (fun h => e h.1), if_neg e])
            have sz6 : w2.heap.size < W6.heap.size := Nat.lt_of_lt_of_le (by simp) hg6.size
            have e6 : ∀ bb, bb < w2.heap.size → bb ≠ w.heap.size → W6.heap[bb]? = w2.heap[bb]? := fun bb h1 h2 => (hg6.block bb (by rw [World.size_alloc]; omega) (by simp; omega)).trans (heap_push_old w2 _ h1)
            have B6 : Go.RowKit.Below w.heap.size w W6 := ⟨hg6.os.trans hB'.os, hg6.tape.trans hB'.tape, hg6.output.trans hB'.output, by have := hB'.size; omega, fun i hi => (e6 i (by have := hB'.size; omega) (by omega)).trans (hB'.block i hi)⟩
            obtain ⟨A6, hA6, hS6⟩ : ∃ A6, W6.ownsMap Tryd.prog 9 (plainElem (H := Unit) Tryd.prog 3) w.heap.size (16 * k + n + 1) A6 ∧ SgnIs A6 σ' := ⟨_, hA6, hS6⟩
            clear hzt
            have k6 : ∀ bb j, bb < w2.heap.size → bb ≠ w.heap.size → W6.cell? ⟨bb, j, none⟩ = w2.cell? ⟨bb, j, none⟩ := fun bb j h1 h2 => World.cell?_of_block (a := ⟨bb, j, none⟩) (e6 bb h1 h2)
            have z6 : ∀ bb j, bb < w2.heap.size → bb ≠ w.heap.size → W6.frozen? ⟨bb, j, none⟩ = w2.frozen? ⟨bb, j, none⟩ := fun bb j h1 h2 => by simp only [World.frozen?, e6 bb h1 h2]
            have hcv6 : Aside (∀ c, A6.atKey (strK nm) (.lit (.int .i64 0)) = .lit (.int .i64 c) → c = σ' nm) := fun c h => by
              rw [hS6.at_] at h; simp only [DataW.lit.injEq, Lit.int.injEq, true_and] at h; exact h.symm
            have hw1w : w.heap.size < w1.heap.size := hA.lt
            have hTw : ∀ j, j < B.length → bT < w2.heap.size := fun j hj => cell_lt (hcT1 j hj).1
            go_loopw [62] (fun i w3 => ∃ (m : Nat) (t' : List Bool), m ≤ N.length ∧ i = .int .i64 m ∧ w3.ownsMap Tryd.prog 9 (plainElem Tryd.prog 3) w.heap.size (16 * k + n + 1) A6 ∧ Aside (t' = mkN (decide (σ' nm = (k : Int) + 1)) N m t) ∧ t'.length = B.length ∧
                (∀ j, j < B.length → w3.cell? ⟨bT, j, none⟩ = some (.bool (t'.getD j false)) ∧ w3.frozen? ⟨bT, j, none⟩ = false) ∧
                (∀ j, w3.cell? ⟨w1.heap.size, j, none⟩ = (#[.int .i64 i0, .int .i64 i1, .slice p2 S.length c2, .slice p3 Y.length c3, .slice p4 R.length c4, .slice (some (pl b5 o5)) G.length c5, .slice p6 B.length c6] : Array Value)[j]?) ∧
                (∀ j, w3.cell? ⟨w2.heap.size, j, none⟩ = (#[.string nm, .slice p1 N.length c1] : Array Value)[j]?) ∧ w2.heap.size < w3.heap.size ∧ Go.RowKit.Below w.heap.size w w3)
                (fun i _ => N.length - (intOf i).toNat)
            case atStart =>
              refine ⟨0, t, Nat.zero_le _, rfl, hA6, rfl, htl, fun j hj => ⟨(k6 bT j (hTw j hj) (by omega)).trans (hcT1 j hj).1, (z6 bT j (hTw j hj) (by omega)).trans (hcT1 j hj).2⟩, fun j => (k6 _ j hsz1 (by omega)).trans (h61 j), g6, sz6, B6⟩
            case round =>
              obtain ⟨m, t', hm0, rfl, hA7, HT', htl', hcT7, h67, g7, sz7, B7⟩ := hrel
              obtain ⟨w3, hw3⟩ : ∃ w3, w3 = wr := ⟨_, rfl⟩
              subst hw3
              by_cases hlt3 : m < N.length
              · have hx1 := gk5 m hlt3
                obtain ⟨b1, o1, rfl⟩ := hp1 (by omega)
                have hnx := num_at (below_drel B7 (Nat.le_refl _) gd) (by omega) m hlt3
                obtain ⟨q, hq⟩ : ∃ q : Nat, rI (N.getD m []) 0 = (q : Int) + 1 := ⟨(rI (N.getD m []) 0 - 1).toNat, by omega⟩
                have hqB : q < B.length := by have := HL.out; omega
                have HQ : Aside (rI (N.getD m []) 0 = (q : Int) + 1) := hq
                rw [hq] at hnx hx1
                clear hq
                rcases hpT with ⟨rfl, hT1, hT2⟩ | ⟨_, h0, _⟩
                case inr => omega
                have hqi : (q : Int) < (B.length : Int) := by omega
                have hq0 : (0 : Int) ≤ (q : Int) := Int.natCast_nonneg _
                have hwq : Go.RowKit.wrap64 (q : Int) = (q : Int) := by unfold Go.RowKit.wrap64; omega
                obtain ⟨cq, zq⟩ := hcT7 q hqB
                go_wp2_with (first
                  | (at_lookup; refine wpList_lookup_own_int _ rfl _ _ 56 rfl 9 3 .i64 str_law Tryd.underlying56 Tryd.underlying3 (zero_int _) _ _ A6 rfl hA7 _ _ rfl hkey ?_; intro c hat hwc; obtain rfl := hcv6.out c hat)
                  | go_in)
                go_roundw
                case rel =>
                  have hb2w : bT < w2.heap.size := hTw q hqB
                  have hne1 : w1.heap.size ≠ bT := Nat.ne_of_lt hb1T
                  have hne2 : w2.heap.size ≠ bT := Nat.ne_of_gt hb2w
                  have hne3 : w.heap.size ≠ bT := Nat.ne_of_lt (Nat.lt_trans hw1w hb1T)
                  exact ⟨m + 1, t'.set q (σ' nm == (k : Int) + 1), hlt3, rfl, hA7.setCell hne3 _, mk_set HT'.out HQ.out, List.length_set.trans htl', there_set htl' hqB cq hcT7, fun j => (far_set hne1 _ j).trans (h67 j), fun j => (far_set hne2 _ j).trans (g7 j), Nat.lt_of_lt_of_eq sz7 (World.size_setCell ..).symm, B7.setCell (Nat.le_of_lt (Nat.lt_trans hw1w hb1T)) _⟩
                case measure => simp [intOf]; omega
              · obtain rfl : m = N.length := by omega
                go_wp2
                go_roundw
                case rel =>
                  refine ⟨n + 1, A6, t', by omega, by simp, hA7.mono (by omega), ?_, ?_, hcT7, h67, Nat.lt_trans hsz1 sz7, B7⟩
                  · exact hS6.congr (fun s => by rw [HST.out])
                  · unfold Aside; rw [HST.out]; exact HT'.out
                case measure => simp [intOf]; omega
        · obtain rfl : n = G.length := by omega
          have hG2 : GlobW w2 := hG.below hB' (fun x hx => (hG x hx).1)
          have htl : t.length = B.length := by rw [HT.out, grpSt_len]; simp
          have dT := bools_drel w2 bT cT pT t B.length htl hpT (fun j hj => (hcT1 j hj).1)
          have d6' := below_drel hB' (Nat.le_refl _) d6
          have hX : boolsOf (t.map fun x => [D.bool x]) = t := by simp [boolsOf, D.toBool, Function.comp_def]
          have heq := eqb_calls w2 hG2 (t.map fun x => [D.bool x]) B _ _ dT d6' (by simp; omega)
          rw [hX] at heq
          by_cases hte : t = boolsOf B
          · rw [decide_eq_true hte] at heq
            have hkt : keptOk L k = true := by rw [HK.out, hc, ← HT.out, decide_eq_true HL.out, decide_eq_true hte]; rfl
            clear hte
            go_wp2_with (first
              | (go_at_call 27; refine heq.mono ?_; rintro e W6 ⟨rfl, hB6⟩)
              | go_in)
            go_roundw
            case rel =>
              refine ⟨k + 1, A1, by omega, by simp, fun j hj => ?_, (hA1.kept (below_full hB6 (Nat.le_refl _)) (by simp)).mono (by omega), hS1.congr (fun s => by rw [HN.out]), hB'.trans (hB6.mono hB'.size)⟩
              by_cases hjk : j < k
              · exact hok j hjk
              · obtain rfl : j = k := by omega
                exact hkt
            case measure => simp [intOf]; omega
          · rw [decide_eq_false hte] at heq
            have hkf : r = 8 := HB.out (by rw [HK.out, hc, ← HT.out, decide_eq_true HL.out, decide_eq_false hte]; rfl)
            clear hte
            go_wp2_with (first
              | (go_at_call 27; refine heq.mono ?_; rintro e W6 ⟨rfl, hB6⟩)
              | go_in)
            all_goals go_ret
            all_goals refine ⟨?_, hB'.trans (hB6.mono hB'.size)⟩
            all_goals rw [hkf]; rfl
    · obtain rfl : k = L.length := by omega
      go_wp2
      all_goals go_ret
      refine ⟨?_, hB⟩
      have hcl : chkL L = true := by
        simp only [chkL, Bool.and_eq_true, decide_eq_true_eq, List.all_eq_true, List.mem_range]
        exact ⟨h64, hok⟩
      rw [HR.out, if_pos hcl]
      rfl
end Go.Proofs.YtacfehneeanlgaaDoor.Ev
