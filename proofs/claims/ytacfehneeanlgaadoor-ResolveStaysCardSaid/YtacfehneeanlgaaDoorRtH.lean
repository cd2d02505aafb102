/- resolve.Check's contract; what objects that may be have. resolve.Lacks, walked; its contract. resolve.Bind: what it computes, in plain words. -/
import Derived.Test.YtacfehneeanlgaaDoorRtD
import Derived.Test.YtacfehneeanlgaaDoorRtL
import Derived.Test.YtacfehneeanlgaaDoorRtR
namespace Go.Proofs.YtacfehneeanlgaaDoor.Ev
open Go Go.RowKit Go.Shelf Go.Maps
set_option linter.unusedVariables false
set_option linter.unusedSimpArgs false
def okArg (e : List D) : Bool := pChkO [.agg [.arr secC (rA e 2), .arr symC (rA e 3), .arr relC (rA e 4), .arr grpC (rA e 5)]] && decide ((rA e 6).length ≤ 1048576)
def pKck : List V → Bool
  | [.arr _ l] => decide (l.length ≤ 1048576) && (decide (64 < l.length) || l.all okArg)
  | _ => true
noncomputable def gKck : List V → Option V
  | [.arr [.int .i64, .int .i64, .arr [.str, .int .i64, .arr [.int .u8], .int .i64], .arr [.str, .int .u8, .bool, .int .i64, .int .i64, .int .i64], .arr [.int .i64, .int .i64, .int .u8, .int .i64, .int .i64], .arr [.str, .arr [.int .i64]], .arr [.bool]] l] => some (.val (.int .i64 (if chkL l = true then 0 else 8)))
  | _ => none
theorem args_ok {L : List (List D)} (h : L.all okArg = true) : ∀ i, i < L.length → pChkO [.agg [.arr secC (rA (L.getD i []) 2), .arr symC (rA (L.getD i []) 3), .arr relC (rA (L.getD i []) 4), .arr grpC (rA (L.getD i []) 5)]] = true ∧ (rA (L.getD i []) 6).length ≤ 1048576 := by
  intro i hi
  have := List.all_eq_true.1 h (L.getD i []) (by rw [List.getD_eq_getElem?_getD, List.getElem?_eq_getElem hi]; exact List.getElem_mem hi)
  simp only [okArg, Bool.and_eq_true, decide_eq_true_eq] at this
  exact this
/-- A function of one row: its argument. -/
theorem row_arg {g : Gh} {w : World} {cs : List CT} {l : List (List D)} {cargs : Array Value} (hH : Handed g w [.arr cs l] [] cargs) : ∃ p cap, cargs = #[.slice p l.length cap] ∧ DRel allS w (.arr cs) (.arr l) (.slice p l.length cap) ∧ GlobW w := by
  obtain ⟨c, a1, a2⟩ := hH.args 0 _ rfl
  have hs := hH.size
  have hd : DRel allS w (.arr cs) (.arr l) c := (arr_d a2).mono fun b o c _ h2 => ⟨trivial, h2⟩
  obtain ⟨p, cap, e, -⟩ := arr_slice hd
  subst e
  refine ⟨p, cap, ?_, hd, fun x hx => (hH.glob x hx).2⟩
  apply Array.ext
  · simpa using hs
  · intro i h1 h2
    match i with
    | 0 => rw [Array.getElem?_eq_getElem h1] at a1; simpa [D.toArr] using a1
    | _ + 1 => simp at hs; omega
set_option maxRecDepth 100000 in
set_option maxHeartbeats 4000000 in
theorem check_many (w : World) (p : Option Addr) (cap : Nat) (L : List (List D)) (h : 64 < L.length) (hl : L.length ≤ 1048576) :
    Calls Tryd.prog 19 #[.slice p L.length cap] w fun e W' => e = .returned (.int .i64 8) ∧ Go.RowKit.Below w.heap.size w W' := by
  go_enter Tryd.func19, Tryd.ntmps19
  go_wp2
  go_ret
  exact ⟨rfl, Go.RowKit.Below.refl _ _⟩
/-- Check, also where there are too many objects. -/
theorem check2_calls (w : World) (hG : GlobW w) (p : Option Addr) (cap : Nat) (L : List (List D)) (hL : DRel allS w (.arr keptC) (.arr L) (.slice p L.length cap)) (hl : L.length ≤ 1048576) (hk : 64 < L.length ∨ L.all okArg = true) :
    Calls Tryd.prog 19 #[.slice p L.length cap] w fun e W' => e = .returned (.int .i64 (if chkL L = true then 0 else 8)) ∧ Go.RowKit.Below w.heap.size w W' := by
  by_cases h : 64 < L.length
  · have hf : chkL L = false := by unfold chkL; rw [decide_eq_false (by omega), Bool.false_and]
    rw [if_neg (by rw [hf]; simp)]
    exact check_many w p cap L h hl
  · exact check_calls w hG p cap L hL hl (args_ok (hk.resolve_left h))
theorem con_kck : ∀ vs v, pKck vs = true → gKck vs = some v → Contract Tryd.prog 19 vs [] (v, []) := by
  intro vs v hp h
  unfold gKck at h
  split at h <;> cases h
  rename_i l
  simp only [pKck, Bool.and_eq_true, Bool.or_eq_true, decide_eq_true_eq] at hp
  refine contract_walk trivial fun g w cargs hH => ?_
  obtain ⟨p, cap, rfl, hd, hG⟩ := row_arg hH
  exact (check2_calls w hG p cap l hd hp.1 hp.2).mono fun e W' ⟨he, hB⟩ => ⟨_, he, .val _ _, hB⟩
theorem getDm {l : List (List D)} {k : Nat} (h : k < l.length) : l.getD k [] ∈ l := by rw [List.getD_eq_getElem?_getD, List.getElem?_eq_getElem h]; exact List.getElem_mem h
/-! ### Symbols of objects that may be -/
theorem symsGo_ok (S : List (List D)) : ∀ (Y : List (List D)) (gl : Bool) (m), symsGo S Y gl m = true → ∀ y ∈ Y, symIn S y = true := by
  intro Y
  induction Y with
  | nil => intro gl m _ y hy; exact absurd hy (by simp)
  | cons e t ih =>
    intro gl m h y hy
    rw [symsGo] at h
    split at h
    · cases h
    · rename_i h1
      rcases List.mem_cons.1 hy with rfl | hy
      · simpa using h1
      · split at h
        · split at h
          · cases h
          · exact ih _ _ h y hy
        · split at h
          · cases h
          · exact ih _ _ h y hy
theorem symIn_ok {S : List (List D)} {y : List D} (h : symIn S y = true) : (rN y).size ≤ 32 ∧ rI y 3 ≤ (S.length : Int) := by
  simp only [symIn, Bool.and_eq_true, beq_iff_eq] at h
  have h1 := h.1
  unfold symE at h1
  split at h1
  · cases h1
  · split at h1
    · rename_i h2
      simp only [Bool.and_eq_true] at h2
      refine ⟨?_, ?_⟩
      · have := h2.1; simp only [namedB, Bool.and_eq_true, decide_eq_true_eq] at this; exact this.1.2
      · have h3 := h2.2
        unfold standsB at h3
        split at h3
        · cases h3
        · split at h3
          · omega
          · split at h3
            · omega
            · split at h3
              · omega
              · simp only [inB, Bool.and_eq_true, decide_eq_true_eq] at h3; omega
    · cases h1
theorem chk_read {L : List (List D)} (h : chkL L = true) : L.length ≤ 64 ∧ ∀ i, i < L.length → (rA (L.getD i []) 3).length ≤ 64 ∧ (rA (L.getD i []) 6).length ≤ 64 ∧ ∀ n, n < (rA (L.getD i []) 3).length → (rN ((rA (L.getD i []) 3).getD n [])).size ≤ 32 ∧ rI ((rA (L.getD i []) 3).getD n []) 3 ≤ (rA (L.getD i []) 6).length := by
  simp only [chkL, Bool.and_eq_true, decide_eq_true_eq, List.all_eq_true, List.mem_range] at h
  refine ⟨h.1, fun i hi => ?_⟩
  have h1 := h.2 i hi
  simp only [keptOk, Bool.and_eq_true, decide_eq_true_eq] at h1
  obtain ⟨h2, h3, -⟩ := h1
  have h4 := chk_grp h2
  simp only [chkB, symsB, Bool.and_eq_true, decide_eq_true_eq] at h2
  obtain ⟨⟨⟨⟨_, _⟩, h5, h6⟩, _⟩, _⟩ := h2
  refine ⟨h6, by omega, fun n hn => ?_⟩
  have := symIn_ok (symsGo_ok _ _ _ _ h5 ((rA (L.getD i []) 3).getD n []) (getDm hn))
  rw [h3]
  exact this
end Go.Proofs.YtacfehneeanlgaaDoor.Ev
namespace Go.Proofs.YtacfehneeanlgaaDoor.Ev
open Go Go.RowKit Go.Shelf Go.Maps
set_option linter.unusedVariables false
set_option linter.unusedSimpArgs false
/-- All names that are asked for, and not defined, rising. -/
def allN (L : List (List D)) : List (List UInt8) := (List.range L.length).flatMap fun i => (rA (L.getD i []) 3).map fun y => (rN y).data.toList
def lackB (L : List (List D)) (x : List UInt8) : Bool := aAll ⟨x.toArray⟩ L L.length && !(dAll ⟨x.toArray⟩ L L.length).is
def dedup : List (List UInt8) → List (List UInt8)
  | [] => []
  | x :: t => x :: (dedup t).filter (fun y => !decide (y = x))
def lackN (L : List (List D)) : List (List UInt8) := ((dedup (allN L)).filter (lackB L)).mergeSort fun x y => decide (x ≤ y)
def lackD (L : List (List D)) : List (List D) := (lackN L).map fun x => [.str ⟨x.toArray⟩]
theorem mem_dedup {x : List UInt8} : ∀ {l : List (List UInt8)}, x ∈ dedup l ↔ x ∈ l := by
  intro l
  induction l with
  | nil => simp [dedup]
  | cons a t ih =>
    simp only [dedup, List.mem_cons, List.mem_filter, ih, Bool.not_eq_true', decide_eq_false_iff_not]
    by_cases h : x = a <;> simp [h]
theorem nodup_dedup : ∀ (l : List (List UInt8)), (dedup l).Nodup := by
  intro l
  induction l with
  | nil => simp [dedup]
  | cons a t ih =>
    rw [dedup, List.nodup_cons]
    exact ⟨by simp [List.mem_filter], ih.filter _⟩
theorem aAll_mem {L : List (List D)} {x : List UInt8} (h : aAll ⟨x.toArray⟩ L L.length = true) : x ∈ allN L := by
  simp only [aAll, aRow, List.any_eq_true, List.mem_range, Bool.and_eq_true, decide_eq_true_eq] at h
  obtain ⟨i, hi, k, hk, _, he⟩ := h
  refine List.mem_flatMap.2 ⟨i, List.mem_range.2 hi, List.mem_map.2 ⟨_, getDm hk, ?_⟩⟩
  rw [he]
theorem lack_sorted {L : List (List D)} {ss : List (List UInt8)} (hm : ∀ x, x ∈ ss ↔ aAll ⟨x.toArray⟩ L L.length = true ∧ (dAll ⟨x.toArray⟩ L L.length).is = false) (hn : ss.Nodup) : ss.mergeSort (fun x y => decide (x ≤ y)) = lackN L := by
  refine mergeSort_of_perm ((List.perm_ext_iff_of_nodup hn ((nodup_dedup _).filter _)).2 fun x => ?_)
  rw [hm, List.mem_filter, mem_dedup, lackB, Bool.and_eq_true, Bool.not_eq_true']
  exact ⟨fun h => ⟨aAll_mem h.1, h⟩, fun h => h.2⟩
/-- Strings of an own row, as data. -/
theorem strs_drel {W : World} {base : Nat} {v : Value} {xs : List (List UInt8)} (h : W.ownsRow base 9 1 v xs.length (xs.map encStr)) {st : Nat → Nat → Prop} (hst : ∀ b, base ≤ b → ∀ o, st b o) :
    DRel st W (.arr [.str]) (.arr (xs.map fun x => [.str ⟨x.toArray⟩])) v := by
  rcases h.2 with ⟨rfl, h0⟩ | ⟨g, cap, cur, rfl, hb, hg, h1, h2, h3, h4⟩
  · have : xs = [] := List.length_eq_zero_iff.1 h0
    subst this
    exact .nil _ _ _ rfl
  · have e : xs.length = (D.arr (xs.map fun x => [D.str ⟨x.toArray⟩])).toArr.length := by simp [D.toArr]
    have hc := h
    rw [e]
    refine .arr [.str] _ g 0 cap (fun i _ => encStr (xs.getD i [])) (by simpa [D.toArr] using h1) h2 (fun i j hi hj => ?_) (fun i j c hi hj => ?_)
    · have hj : j = 0 := by simpa using hj
      subst hj
      simp [D.toArr] at hi
      refine ⟨hst g hb _, ?_⟩
      have := hc.cellAt i (by omega)
      simp only [pl, List.length_cons, List.length_nil, Nat.zero_add, Nat.mul_one, Nat.add_zero]
      rw [this]
      simp [List.getD_eq_getElem?_getD, hi]
    · have hj0 : j = 0 := by have := (List.getElem?_eq_some_iff.1 hj).1; simpa using this
      subst hj0
      simp at hj
      subst hj
      simp [D.toArr] at hi
      have : (((D.arr (xs.map fun x => [D.str ⟨x.toArray⟩])).toArr.getD i []).getD 0 default) = .str ⟨(xs.getD i []).toArray⟩ := by
        simp [D.toArr, List.getD_eq_getElem?_getD, List.getElem?_eq_getElem hi]
      rw [this]
      exact .str _
set_option maxRecDepth 100000 in
set_option maxHeartbeats 4000000 in
theorem lck_calls (w : World) (hG : GlobW w) (p : Option Addr) (cap : Nat) (L : List (List D)) (hL : DRel allS w (.arr keptC) (.arr L) (.slice p L.length cap)) (hl : L.length ≤ 1048576) (hk : 64 < L.length ∨ L.all okArg = true) :
    Calls Tryd.prog 18 #[.slice p L.length cap] w fun e W' => ∃ v, e = .returned (.tuple #[v, .int .i64 (if chkL L = true then 0 else 8)]) ∧ ((chkL L = true ∧ W'.ownsRow w.heap.size 9 1 v (lackN L).length ((lackN L).map encStr)) ∨ (chkL L = false ∧ v = .slice none 0 0)) ∧ Go.RowKit.Below w.heap.size w W' := by
  have hck := check2_calls w hG p cap L hL hl hk
  go_enter Tryd.func18, Tryd.ntmps18
  by_cases hc : chkL L = true
  case neg =>
    have hcf : chkL L = false := by simpa using hc
    rw [if_neg hc] at hck ⊢
    go_wp2_with (first
      | (go_at_call 19; refine hck.mono ?_; rintro e W1 ⟨rfl, hB1⟩)
      | go_in)
    refine ⟨rfl, .tuple #[.slice none 0 0, .int .i64 8], by simp [results, Tryd.f18, go_sem], _, rfl, .inr ⟨hcf, rfl⟩, hB1⟩
  case pos =>
    rw [if_pos hc] at hck ⊢
    obtain ⟨r1, r2⟩ := chk_read hc
    go_wp2_with (first
      | (go_at_call 19; refine hck.mono ?_; rintro e W1 ⟨rfl, hB1⟩)
      | (go_at_call 22; refine (read_calls W1 (hG.below hB1 (fun x hx => (hG x hx).1)) p cap L (below_drel hB1 (Nat.le_refl _) hL) r1 r2).mono ?_; rintro e W2 ⟨b1, b2, M, A, k, rfl, hb1, hb2, hne, hM, hA, hk8, hT, hB2⟩)
      | (go_at_call 23; refine (lacks_calls W2 b1 b2 k k M A _ _ hM hA hT hne hk8).mono ?_; rintro e W3 ⟨v, ss, rfl, hms, hnd, hrow, hnil, hg3, hle⟩)
      | go_in)
    have hs : (ss.mergeSort fun x y => decide (x ≤ y)) = lackN L := lack_sorted hms hnd
    have hlen : ss.length = (lackN L).length := by rw [← hs, List.length_mergeSort]
    rw [hs, hlen] at hrow
    have hws := hB1.size
    have hws2 := hB2.size
    refine ⟨rfl, .tuple #[v, .int .i64 0], by simp [results, Tryd.f18, go_sem], v, rfl, .inl ⟨hc, ownsRow_base_a hrow (by omega)⟩, hg3.os.trans (hB2.os.trans hB1.os), hg3.tape.trans (hB2.tape.trans hB1.tape), hg3.output.trans (hB2.output.trans hB1.output), by have := hg3.size; omega, fun i hi => (hg3.block i (by omega) (by simp; omega)).trans ((hB2.block i (by omega)).trans (hB1.block i hi))⟩
def pLck : List V → Bool := pKck
noncomputable def gLck : List V → Option V
  | [.arr [.int .i64, .int .i64, .arr [.str, .int .i64, .arr [.int .u8], .int .i64], .arr [.str, .int .u8, .bool, .int .i64, .int .i64, .int .i64], .arr [.int .i64, .int .i64, .int .u8, .int .i64, .int .i64], .arr [.str, .arr [.int .i64]], .arr [.bool]] l] => some (.tup [.arr [.str] (if chkL l = true then lackD l else []), .val (.int .i64 (if chkL l = true then 0 else 8))])
  | _ => none
theorem con_lck : ∀ vs v, pLck vs = true → gLck vs = some v → Contract Tryd.prog 18 vs [] (v, []) := by
  intro vs v hp h
  unfold gLck at h
  split at h <;> cases h
  rename_i l
  simp only [pLck, pKck, Bool.and_eq_true, Bool.or_eq_true, decide_eq_true_eq] at hp
  refine contract_walk (by simp [V.back, V.back1]) fun g w cargs hH => ?_
  obtain ⟨p, cap, rfl, hd, hG⟩ := row_arg hH
  refine (lck_calls w hG p cap l hd hp.1 hp.2).mono fun e W' ⟨v, he, hv, hB⟩ => ⟨_, he, .tup _ _ _ rfl (fun i u hu => ?_) (fun i u c hu hc => ?_), hB⟩
  · match i with
    | 0 | 1 => simp at hu; subst hu; trivial
    | i + 2 => simp at hu
  · match i with
    | 0 =>
      simp at hu hc; subst hu; subst hc
      refine .arr _ _ _ _ ?_
      rcases hv with ⟨h1, h2⟩ | ⟨h1, h2⟩
      · rw [if_pos h1]
        refine strs_drel h2 fun b hb o => ?_
        unfold Gh.stable
        rw [hH.fresh b hb]
        trivial
      · rw [if_neg (by rw [h1]; simp)]
        rw [h2]
        exact .nil _ _ _ rfl
    | 1 => simp at hu hc; subst hu; subst hc; exact .val _ _
    | i + 2 => simp at hu
end Go.Proofs.YtacfehneeanlgaaDoor.Ev
namespace Go.Proofs.YtacfehneeanlgaaDoor.Ev
open Go Go.RowKit Go.Shelf Go.Maps
set_option linter.unusedVariables false
set_option linter.unusedSimpArgs false
/-- A name has more than one strong definition. -/
def doubleB (L : List (List D)) : Bool := (allN L).any fun x => decide (1 < (dAll ⟨x.toArray⟩ L L.length).st)
theorem dRow_none (s : ByteArray) (e : List D) (i : Nat) (d : Def1) (n : Nat) (h : ∀ k, k < n → rN ((rA e 3).getD k []) ≠ s) : dRow s e i d n = d := by
  induction n with
  | zero => rfl
  | succ n ih => rw [dRow_succ, ih (fun k hk => h k (by omega)), dStep, if_neg (fun h2 => h n (by omega) h2.2)]
theorem dAll_none (s : ByteArray) (L : List (List D)) (i : Nat) (h : ∀ k, k < i → ∀ n, n < (rA (L.getD k []) 3).length → rN ((rA (L.getD k []) 3).getD n []) ≠ s) : dAll s L i = Def1.zero := by
  induction i with
  | zero => rfl
  | succ i ih => rw [dAll_succ, ih (fun k hk => h k (by omega)), dRow_none _ _ _ _ _ (h i (by omega))]
theorem allN_mem {L : List (List D)} {i n : Nat} (hi : i < L.length) (hn : n < (rA (L.getD i []) 3).length) : (rN ((rA (L.getD i []) 3).getD n [])).data.toList ∈ allN L :=
  List.mem_flatMap.2 ⟨i, List.mem_range.2 hi, List.mem_map.2 ⟨_, getDm hn, rfl⟩⟩
theorem dAll_mem {s : ByteArray} {L : List (List D)} (h : dAll s L L.length ≠ Def1.zero) : s.data.toList ∈ allN L := by
  apply Classical.byContradiction
  intro hc
  refine h (dAll_none s L _ fun k hk n hn e => hc ?_)
  rw [← e]
  exact allN_mem hk hn
theorem doubleB_false {L : List (List D)} (h : ∀ s : ByteArray, (dAll s L L.length).st ≤ 1) : doubleB L = false := by
  unfold doubleB
  rw [List.any_eq_false]
  exact fun x _ => by have := h ⟨x.toArray⟩; simp; omega
theorem doubleB_true {L : List (List D)} {s : ByteArray} (h : 1 < (dAll s L L.length).st) : doubleB L = true := by
  unfold doubleB
  rw [List.any_eq_true]
  exact ⟨s.data.toList, dAll_mem (fun e => by rw [e] at h; exact absurd h (by decide)), by simpa using h⟩
noncomputable def bindE (L : List (List D)) : Int := if chkL L = false then 8 else if doubleB L = true then 230 else if lackN L = [] then 0 else 231
/-! ### The rows -/
abbrev bndC : List CT := [.int .i64, .int .i64]
/-- What a symbol stands for. -/
def bndOf (L : List (List D)) (i n : Nat) : Int × Int :=
  if rI ((rA (L.getD i []) 3).getD n []) 1 ≠ 0 ∧ (dAll (rN ((rA (L.getD i []) 3).getD n [])) L L.length).is = true then ((dAll (rN ((rA (L.getD i []) 3).getD n [])) L L.length).ob, (dAll (rN ((rA (L.getD i []) 3).getD n [])) L L.length).sy)
  else if rI ((rA (L.getD i []) 3).getD n []) 1 = 0 ∧ goneB (rA (L.getD i []) 6) (rI ((rA (L.getD i []) 3).getD n []) 3) = false then ((i : Int), (n : Int)) else (-1, -1)
def rowD (L : List (List D)) (i : Nat) : List (List D) := (List.range (rA (L.getD i []) 3).length).map fun n => [.int (bndOf L i n).1, .int (bndOf L i n).2]
def bindD (L : List (List D)) : List (List D) := (List.range L.length).map fun i => [.arr (rowD L i)]
end Go.Proofs.YtacfehneeanlgaaDoor.Ev
