/- The row of the law quoin/quoinlaw23.ResolveStays: whatever it is handed, it returns true, and what it was handed reads as before. No condition. -/
import Derived.Test.YtacfehneeanlgaaDoorRows
import Derived.Test.YtacfehneeanlgaaDoorCards
import Derived.Test.YtacfehneeanlgaaDoorTie
import Derived.Test.YtacfehneeanlgaaDoorCrd
import Derived.Test.YtacfehneeanlgaaDoorYsW
import Derived.Test.YtacfehneeanlgaaDoorArgS
import Derived.WalkKit
import Derived.ProofKit
import Derived.OpenShut
import Derived.ShutString
import Derived.ChangeOld
import Derived.Below
import Derived.SizedLaws
import Derived.Carry
import Derived.SevenTiedAt
namespace Go.Proofs.YtacfehneeanlgaaDoor.Ev
open Go Go.RowKit Go.Shelf Go.Maps
theorem con_sty (l S Y R G : List (List D)) (hl : Good (.arr keptC) (.arr l)) (hO : GObj S Y R G) : Contract Tryd.prog 4 [.arr keptC l, .agg [.arr secC S, .arr symC Y, .arr relC R, .arr grpC G]] [] (.val (.bool true), []) := by
  refine contract_walk trivial fun g w cargs hH => ?_
  obtain ⟨c0, a0, b0⟩ := hH.args 0 _ rfl
  obtain ⟨c1, a1, b1⟩ := hH.args 1 _ rfl
  have hs := hH.size
  have all : ∀ {ct : CT} {d : D} {v : Value}, DRel g.stable w ct d v → DRel allS w ct d v := fun h => h.mono fun b o c _ h2 => ⟨trivial, h2⟩
  have d0 := all (arr_d b0)
  obtain ⟨p, cap, e0, -⟩ := arr_slice d0
  have e0' : c0 = .slice p l.length cap := e0
  subst e0'
  cases b1 with
  | agg _ _ cs hl4 _ hf =>
    have h4 : cs.size = 4 := by rw [← hl4]; rfl
    have f0 := all (arr_d (hf 0 _ _ rfl (Array.getElem?_eq_getElem (by omega))))
    have f1 := all (arr_d (hf 1 _ _ rfl (Array.getElem?_eq_getElem (by omega))))
    have f2 := all (arr_d (hf 2 _ _ rfl (Array.getElem?_eq_getElem (by omega))))
    have f3 := all (arr_d (hf 3 _ _ rfl (Array.getElem?_eq_getElem (by omega))))
    obtain ⟨ps, cS, g0, -⟩ := arr_slice f0
    obtain ⟨py, cY, g1, -⟩ := arr_slice f1
    obtain ⟨pr, cR, g2, -⟩ := arr_slice f2
    obtain ⟨pg, cG, g3, -⟩ := arr_slice f3
    have hcs : cs = #[.slice ps S.length cS, .slice py Y.length cY, .slice pr R.length cR, .slice pg G.length cG] := by
      apply Array.ext
      · exact h4
      · intro i h1 h2
        match i, h2 with
        | 0, _ => exact g0
        | 1, _ => exact g1
        | 2, _ => exact g2
        | 3, _ => exact g3
        | i + 4, h2 => simp at h2; omega
    have hc : cargs = #[.slice p l.length cap, .agg cs] := by
      apply Array.ext
      · simpa using hs
      · intro i h1 h2
        match i with
        | 0 => rw [Array.getElem?_eq_getElem h1] at a0; simpa using a0
        | 1 => rw [Array.getElem?_eq_getElem h1] at a1; simpa using a1
        | i + 2 => simp at hs; omega
    subst hcs
    subst hc
    exact (stays_calls w (fun x hx => (hH.glob x hx).2) p cap l d0 ps py pr pg cS cY cR cG S Y R G f0 f1 f2 f3 hl hO).mono fun e W' ⟨he, hB⟩ => ⟨_, he, .val _ _, hB⟩
end Go.Proofs.YtacfehneeanlgaaDoor.Ev
namespace Go.Proofs.YtacfehneeanlgaaDoor.resolveStays
open Go.ChangeShapes Go.WideShapes Go.ChangeAt Go.RowKit Go.Proofs.YtacfehneeanlgaaDoor.Ev
open Go.ChangeMaps (open_string shut_string)
set_option linter.unusedVariables false
set_option linter.unusedSimpArgs false
theorem own : ownKnob Tryd.prog.godebug = none := by kernel_rfl
theorem laidOut : laidOutB Tryd.prog = true := by kernel_rfl
set_option maxRecDepth 100000 in
theorem lifted (os : Os) (started : os.Started) (H : Type) (enc : TypeId × Value → H) :
    ReturnsInHanded {} Tryd.checked os 4 .any (fun w args => (Rows.resolveStaysSpec.pre enc Tryd.prog Tryd.f4 [] false w args ∧ laidMetH Tryd.prog laidN w) ∧ sizedMet enc Tryd.prog Tryd.f4 (OpenSpec.ofChange Rows.resolveStaysSpec) false w args) (Rows.resolveStaysSpec.post enc Tryd.prog Tryd.f4 false true false false) := by
  refine returnsInHanded_of_change_and (C := Tryd.checked) (X := fun w _ => laidMetH Tryd.prog laidN w) (fun _ _ _ hh h => h.of_heap hh) own started (by kernel_rfl) Tryd.func4
    (ChangeSpec.witness_shaped (enc := enc) (C := Tryd.checked) (os := os) (X := fun w _ => laidMetH Tryd.prog laidN w) false (World.doorLaid Tryd.prog 400 os) #[.slice none 0 0, .agg #[.slice none 0 0, .slice none 0 0, .slice none 0 0, .slice none 0 0]] 8 rfl (World.shaped_of_RefB (by kernel_rfl) (by kernel_rfl)) (by kernel_rfl) (by kernel_rfl) (by kernel_rfl) (door_met os _)) ?_
  intro W base args ds gs before hval0 hW hcnd hsz0 hL _
  have hsz : (DataW.weightsEach Tryd.prog (Tryd.f4.params.toList ++ Rows.resolveStaysSpec.plain.varTypes Tryd.prog) (ds ++ gs)).all (· ≤ reachBytes) = true := hsz0
  have hval : ∀ (j : Nat) t v, Tryd.f4.params[j]? = some t → args[j]? = some v → Value.okWide Tryd.prog W .any base t v := hval0
  have hW' := hW
  obtain ⟨p, q, hA0, hV, rfl, hfz, hnd⟩ := hW
  have hA : DataW.TrodAll enc Tryd.prog W 0 (fun _ => true) true Tryd.f4.params.toList args.toList ds p := hA0
  rw [Tryd.params4] at hA hval hsz
  obtain ⟨v0, vs0, d0, ds0, p0, q0, hargs, rfl, rfl, h0, r0⟩ := trodAll_cons hA
  obtain ⟨v1, vs1, d1, ds1, p1, q1, rfl, rfl, rfl, h1, r1⟩ := trodAll_cons r0
  obtain ⟨rfl, rfl, rfl⟩ := trodAll_nil r1
  obtain rfl : args = #[v0, v1] := by cases args; simp_all
  obtain ⟨rfl, rfl⟩ := trodVars_none hV
  obtain ⟨a0, len0, cap0, rfl⟩ := okWide_slice Tryd.underlying22 (hval 0 22 v0 rfl rfl)
  have k0 := h0
  have lt0 : ∀ x ∈ p0, x.block < W.heap.size := by obtain ⟨m, hm⟩ := k0; exact DataW.trod_lt m _ _ _ hm
  obtain ⟨x0, hx0⟩ := opened_arg (P := Tryd.prog) (j := 0) (t := 22) (cts := [.arr [(.int .i64), (.int .i64), (.arr [.str, (.int .i64), (.arr [(.int .u8)]), (.int .i64)]), (.arr [.str, (.int .u8), .bool, (.int .i64), (.int .i64), (.int .i64)]), (.arr [(.int .i64), (.int .i64), (.int .u8), (.int .i64), (.int .i64)]), (.arr [.str, (.arr [(.int .i64)])]), (.arr [.bool])]]) (by kernel_rfl) hsz rfl rfl h0
  obtain ⟨z0, g0, hr0⟩ := arg_slice (c := .slice a0 len0 cap0) rfl hx0
  obtain ⟨a1, rfl, _⟩ := okWide_struct Tryd.underlying35 (hval 1 35 v1 rfl rfl)
  have k1 := h1
  have lt1 : ∀ x ∈ p1, x.block < W.heap.size := by obtain ⟨m, hm⟩ := k1; exact DataW.trod_lt m _ _ _ hm
  obtain ⟨x1, hx1⟩ := opened_arg (P := Tryd.prog) (j := 1) (t := 35) (cts := [(.arr [.str, (.int .i64), (.arr [(.int .u8)]), (.int .i64)]), (.arr [.str, (.int .u8), .bool, (.int .i64), (.int .i64), (.int .i64)]), (.arr [(.int .i64), (.int .i64), (.int .u8), (.int .i64), (.int .i64)]), (.arr [.str, (.arr [(.int .i64)])])]) (by kernel_rfl) hsz rfl rfl h1
  obtain ⟨s1, y1, l1, g1, gs1, gy1, gl1, gg1, hr1⟩ := arg_obj (cs := a1) hx1
  clear hA0 hval0 hsz0 hsz
  refine (law_of_contract (w := W) (con_sty z0 s1 y1 l1 g1 g0 ⟨gs1, gy1, gl1, gg1⟩) rfl (fun i v hi => ?_) (glob_of_laid hL)).mono fun e W' ⟨he, bel⟩ => ?_
  · match i with
    | 0 => simp only [List.getElem?_cons_succ, List.getElem?_cons_zero, Option.some.injEq] at hi; subst hi; exact ⟨_, rfl, hr0 _⟩
    | 1 => simp only [List.getElem?_cons_succ, List.getElem?_cons_zero, Option.some.injEq] at hi; subst hi; exact ⟨_, rfl, hr1 _⟩
    | i + 2 => simp at hi
  subst he
  exact ⟨_, rfl, _, _, _, [], _, [], hW', trodAll_mk1 (shut_bool Tryd.underlying4 _), (trodAll_cons_mk (Below.trod laidOut (by kernel_rfl) (of_decide_eq_true (by kernel_rfl)) k0 bel lt0) (trodAll_cons_mk (Below.trod laidOut (by kernel_rfl) (of_decide_eq_true (by kernel_rfl)) k1 bel lt1) trodAll_mk0)), rfl, bel.frame _, fun h => by cases h⟩
theorem over : Rows.resolveStaysRow.holds Tryd.pinned (OpenSpec.ofChange Rows.resolveStaysSpec) :=
  OpenClaim.holds_of_wide 4 Tryd.f4 rfl rfl rfl rfl rfl rfl rfl ⟨rfl, rfl, rfl, rfl, rfl⟩ rfl rfl rfl rfl rfl (by kernel_rfl) Tryd.func4 (by kernel_rfl)
    (of_decide_eq_true (by kernel_rfl)) (by unfold Func.isWrapper; first | (rw [if_pos (by decide +kernel)]; kernel_rfl) | (rw [if_neg (by decide +kernel)]; exact ⟨rfl, rfl⟩))
    (fun os started H enc _ => lifted os started H enc)
theorem card : Rows.ResolveStaysCardSaid :=
  Claim7.holds_tied_plain_at .later [] [.data] true (true, "b242451278e3e19d738484efb391564e1daa88859dc8ffbe7648ab5359c700b9") false over (fun _ h => by cases h) (by kernel_rfl) (fun _ h => by cases h) resolveStays_row_tie rfl ⟨rfl, rfl⟩ (by kernel_rfl) rfl
    (fun f fn hf hfn => by
      obtain rfl : f = 4 := Option.some.inj ((show Tryd.prog.funcNamed "quoin/quoinlaw23.ResolveStays" = some 4 by kernel_rfl).symm.trans hf) |>.symm
      obtain rfl : fn = Tryd.f4 := (Option.some.inj (Tryd.func4.symm.trans hfn)).symm
      refine ⟨by kernel_rfl, fun j t ht => ?_⟩
      rw [Tryd.params4] at ht
      match j with
      | 0 => simp at ht; subst ht; exact (show Tryd.prog.wantsStandIn 22 = false by kernel_rfl)
      | 1 => simp at ht; subst ht; exact (show Tryd.prog.wantsStandIn 35 = false by kernel_rfl)
      | j + 2 => simp at ht)
    (by kernel_rfl)
end Go.Proofs.YtacfehneeanlgaaDoor.resolveStays
namespace Go.Proofs.YtacfehneeanlgaaDoor
/-- The card, under a short name, for the claim. -/
theorem resolveStays_holds : Rows.ResolveStaysCardSaid := resolveStays.card
#print axioms resolveStays_holds
end Go.Proofs.YtacfehneeanlgaaDoor
