/- slices.Chunk's closure, walked with the kit's words; a walked function's contract. elfw.filled: a range over slices.Chunk: walked with the kit's words; told as a contract of the frame. elfw.filled, walked; its contract. -/
import Derived.RangeFuncNested
import Derived.RangeFuncWrites
import Derived.RangeFuncBox
import Derived.RangeFuncLeaves
import Derived.Shelf.Abstract
import Derived.Shelf.RegionOpen
import Derived.WalkKit
import Derived.OwnWalkIn
import Derived.TacticsInMore
import Derived.LoopNIn
import Derived.LoopIn
import Derived.Lib.SlBytesRow
import Derived.Test.YtacfehneeanlgaaDoorNrm
namespace Go.Proofs.YtacfehneeanlgaaDoor.Ev
open Go Go.RowKit Go.Shelf
set_option linter.unusedVariables false
set_option linter.unusedSimpArgs false
attribute [local go_sem] Oper.semAt_some
/-- A function that is walked by the kit's words: what lay lies as it lay; nobody writes what it makes. -/
theorem contract_walk {P : Program} {f : Nat} {vs : List V} {r : V} (hb : r.back 0)
    (h : ∀ (g : Gh) (w : World) (cargs : Array Value), Handed g w vs [] cargs → Calls P f cargs w fun e w' => ∃ v, e = .returned v ∧ VRel g w' .ret r v ∧ Go.RowKit.Below w.heap.size w w') : Contract P f vs [] (r, []) := by
  intro g w cargs hH
  refine (h g w cargs hH).mono fun e w' ⟨v, he, hv, hB⟩ => ⟨v, g, he, hv, hb, rfl, fun i cs hi => by simp at hi, ?_, fun b hb => hH.fresh b (Nat.le_trans hB.size hb), hH.nones⟩
  have lt : ∀ b, g.own b ≠ .free → b < w.heap.size := fun b hne => Nat.lt_of_not_le fun hle => hne (hH.fresh b hle)
  refine ⟨hB.os, hB.tape, hB.output, hB.size, fun b hb ho => ⟨hB.block b hb, ho⟩, fun b l ho => ⟨hB.block b (lt b (by rw [ho]; exact fun e => by cases e)), ho⟩, fun b s l ho => ?_, fun b k ho => ho, fun i b hb => hb⟩
  have hlt := lt b (by rw [ho]; exact fun e => by cases e)
  exact ⟨fun o c _ hc => by rw [cell_of_heap (hB.block b hlt)]; exact hc, .inr (.inr ⟨s, l, ho, Nat.le_refl _⟩)⟩
def nopS : ByteArray := ⟨#[19, 0, 0, 0]⟩
def nopW : List (List D) → Bool
  | [] => true
  | a :: b :: c :: d :: r => decide (rowBytes [a, b, c, d] = nopS) && nopW r
  | _ => false
def fillB (xs : List (List D)) : Bool := if xs.length % 4 = 2 then (cellI xs 0 0 == 1) && (cellI xs 1 0 == 0) && nopW (xs.drop 2) else nopW xs
def gFil : List V → Option V
  | [.arr [.int .u8] xs] => some (.val (.bool (fillB xs)))
  | _ => none
def pFil : List V → Bool
  | [.arr [.int .u8] xs] => decide (xs.length ≤ 1048576)
  | _ => true
def upto {α : Type} (f : Nat → α) (k : Nat) : List α := (List.range k).map f
theorem upto_succ {α : Type} (f : Nat → α) (k : Nat) : upto f (k + 1) = upto f k ++ [f k] := by simp [upto, List.range_succ]
theorem upto_length {α : Type} (f : Nat → α) (k : Nat) : (upto f k).length = k := by simp [upto]
/-- The k-th chunk of four. -/
def chk4 (b off len : Nat) (k : Nat) : Array Value := #[.slice (some ⟨b, off + 4 * k, none⟩) (min 4 (len - 4 * k)) (min 4 (len - 4 * k))]
set_option maxRecDepth 100000 in
set_option maxHeartbeats 4000000 in
theorem chunk1_in (F : Fence) (n : Nat) (h7 : F.fn 83) (hro : F.round = none) (hn : 1 ≤ n) (l Bs Bn n₀ b off len cap : Nat) (hreach : len ≤ 140737488351232) (hlc : len ≤ cap) (hcm : cap ≤ maxLen) (J Jx : List Nat → World → Prop)
    (hY : ∀ pre x W, J pre W → pre.length < (len + 3) / 4 → YieldAt F (n - 1) Tryd.prog l (chk4 b off len x) W fun e W' =>
      (e = .returned (.bool true) ∧ J (pre ++ [x]) W' ∧ Go.RowKit.Below n₀ W W') ∨ (e = .returned (.bool false) ∧ Jx (pre ++ [x]) W'))
    (hdr : ∀ pre W, J pre W → J pre W.drew) (W : World) (hBs : W.cell? ⟨Bs, 0, none⟩ = some (.slice (some ⟨b, off, none⟩) len cap)) (hBn : W.cell? ⟨Bn, 0, none⟩ = some (.int .i64 4)) (hs0 : Bs < n₀) (hn0 : Bn < n₀) (h0 : J [] W) :
    CallsIn F n Tryd.prog 83 #[.func (.yield l) #[] #[], .pointer (some ⟨Bs, 0, none⟩), .pointer (some ⟨Bn, 0, none⟩)] W fun e W' => (∃ v, e = .returned v) ∧
      ((∃ ys, ys = upto id ((len + 3) / 4) ∧ J ys W') ∨ (∃ pre, (∃ k, k ≤ (len + 3) / 4 ∧ pre = upto id k) ∧ Jx pre W')) := by
  refine callsIn_of_wp Tryd.func83 rfl h7 ?_ hro
  simp only [Tryd.ntmps83, List.size_toArray, List.length_cons, List.length_nil, Nat.reduceAdd, Nat.reduceSub, Array.replicate_succ, Array.replicate_zero, List.push_toArray, List.append_toArray, List.nil_append, List.cons_append]
  gi_wp2
  gi_loopw [4] (fun i wr => ∃ k : Nat, k ≤ (len + 3) / 4 ∧ i = .int .i64 (4 * k : Nat) ∧ J (upto id k) wr ∧ Go.RowKit.Below n₀ W wr)
    (fun i _ => len + 4 - (intOf i).toNat)
  case atStart => exact ⟨0, Nat.zero_le _, rfl, h0, Go.RowKit.Below.refl _ _⟩
  case round =>
    obtain ⟨k, hk, rfl, hJs, hnx⟩ := hrel
    have hsx := (hnx.cell (p := ⟨Bs, 0, none⟩) hs0).trans hBs
    have hnn := (hnx.cell (p := ⟨Bn, 0, none⟩) hn0).trans hBn
    by_cases hlt : 4 * k < len
    · have hdw : Go.RowKit.Below n₀ W wr.drew := hnx.trans ⟨rfl, rfl, rfl, Nat.le_refl _, fun _ _ => rfl⟩
      obtain ⟨fn, tmps, assign, body, hy, hR⟩ := hY _ k wr.drew (hdr _ _ hJs) (by rw [upto_length]; omega)
      simp only [chk4] at hy
      clear hY
      gi_wp2
      gi_region
      all_goals gi_wp2
      all_goals
        have e1 : ((4 * (k : Int) + min 4 ((len - 4 * k : Nat) : Int)).toNat - 4 * k) = min 4 (len - 4 * k) := by omega
        simp only [e1, hy]
        gi_wp2
        refine hR.mono ?_
        rintro e W3 (⟨rfl, hJ3, hk3⟩ | ⟨rfl, hJx3⟩)
        · have hnn3 : W3.cell? ⟨Bn, 0, none⟩ = some (.int .i64 4) := (hk3.cell (p := ⟨Bn, 0, none⟩) hn0).trans ((hdw.cell (p := ⟨Bn, 0, none⟩) hn0).trans hBn)
          gi_wp2
          go_roundw
          case rel => exact ⟨k + 1, by omega, by simp; omega, by rw [upto_succ]; exact hJ3, hdw.trans hk3⟩
          case measure => simp [intOf]; omega
        · gi_wp2
          refine bodyPost_ret (results_none rfl _ _ _) rfl ?_
          exact ⟨⟨_, rfl⟩, .inr ⟨_, ⟨k + 1, by omega, (upto_succ _ _).symm⟩, hJx3⟩⟩
    · obtain rfl : k = (len + 3) / 4 := by omega
      gi_wp2
      go_end0
      exact ⟨⟨_, rfl⟩, .inl ⟨_, rfl, hJs⟩⟩
end Go.Proofs.YtacfehneeanlgaaDoor.Ev
namespace Go.Proofs.YtacfehneeanlgaaDoor.Ev
open Go Go.RowKit Go.Shelf
set_option linter.unusedVariables false
set_option linter.unusedSimpArgs false
attribute [local go_sem] Oper.semAt_some
set_option maxRecDepth 100000 in
set_option maxHeartbeats 1000000 in
theorem chunk1_nil_in (F : Fence) (n : Nat) (h7 : F.fn 83) (hro : F.round = none) (l Bs Bn : Nat) (p : Option Addr) (cap : Nat) (J : List Nat → World → Prop) (W : World) (hBs : W.cell? ⟨Bs, 0, none⟩ = some (.slice p 0 cap)) (h0 : J [] W) :
    CallsIn F n Tryd.prog 83 #[.func (.yield l) #[] #[], .pointer (some ⟨Bs, 0, none⟩), .pointer (some ⟨Bn, 0, none⟩)] W fun e W' => (∃ v, e = .returned v) ∧ J [] W' := by
  refine callsIn_of_wp Tryd.func83 rfl h7 ?_ hro
  simp only [Tryd.ntmps83, List.size_toArray, List.length_cons, List.length_nil, Nat.reduceAdd, Nat.reduceSub, Array.replicate_succ, Array.replicate_zero, List.push_toArray, List.append_toArray, List.nil_append, List.cons_append]
  gi_wp2
  gi_loopw [4] (fun i wr => i = .int .i64 0 ∧ J [] wr ∧ wr.cell? ⟨Bs, 0, none⟩ = some (.slice p 0 cap)) (fun _ _ => 0)
  case atStart => exact ⟨rfl, h0, hBs⟩
  case round =>
    obtain ⟨rfl, hJs, hs⟩ := hrel
    gi_wp2
    go_end0
    exact ⟨⟨_, rfl⟩, hJs⟩
set_option maxHeartbeats 1000000 in
theorem chunk_in (F : Fence) (n : Nat) (h5 : F.fn 64) (hro : F.round = none) (a : Option Addr) (len cap : Nat) (w : World) :
    CallsIn F n Tryd.prog 64 #[.slice a len cap, .int .i64 4] w fun e w' => e = .returned (.func (.func 83) #[] #[.pointer (some ⟨w.heap.size, 0, none⟩), .pointer (some ⟨w.heap.size + 1, 0, none⟩)]) ∧ w' = (w.alloc (.cells #[.slice a len cap] 70)).alloc (.cells #[.int .i64 4] 3) := by
  refine callsIn_of_wp Tryd.func64 rfl h5 ?_ hro
  simp only [Tryd.ntmps64, List.size_toArray, List.length_cons, List.length_nil, Nat.reduceAdd, Nat.reduceSub, Array.replicate_succ, Array.replicate_zero, List.push_toArray, List.append_toArray, List.nil_append, List.cons_append]
  gi_wp2
  go_ret
  exact ⟨rfl, rfl⟩
/-- A row of bytes: a slice of no bytes, or one of some that lies in a block. -/
def ByteRow (n₀ : Nat) (W : World) (sv : Value) (xs : List (List D)) : Prop :=
  (∃ p cap, sv = .slice p 0 cap ∧ xs = []) ∨ ∃ b off cap, sv = .slice (some ⟨b, off, none⟩) xs.length cap ∧ xs.length ≤ cap ∧ cap ≤ maxLen ∧ b < n₀ ∧ xs.length ≤ 140737488351232 ∧ ∀ j, j < xs.length → W.cell? ⟨b, off + j, none⟩ = some (.int .u8 (cellI xs j 0))
theorem ByteRow.below {n₀ : Nat} {A B : World} (h : Go.RowKit.Below n₀ A B) {sv : Value} {xs : List (List D)} : ByteRow n₀ A sv xs → ByteRow n₀ B sv xs
  | .inl e => .inl e
  | .inr ⟨b, off, cap, e, h1, h2, hb, h3, hc⟩ => .inr ⟨b, off, cap, e, h1, h2, hb, h3, fun j hj => (h.cell (p := ⟨b, off + j, none⟩) hb).trans (hc j hj)⟩
theorem chunk_stops (F : Fence) (n : Nat) (h7 : F.fn 83) (hro : F.round = none) (hn : 1 ≤ n) (Bs Bn n₀ b off len cap : Nat) (hreach : len ≤ 140737488351232) (hlc : len ≤ cap) (hcm : cap ≤ maxLen) (w : World) (hBs : Bs < n₀) (hBn : Bn < n₀) (hn₀ : n₀ ≤ w.heap.size)
    (hc : w.cell? ⟨Bs, 0, none⟩ = some (.slice (some ⟨b, off, none⟩) len cap)) (hc2 : w.cell? ⟨Bn, 0, none⟩ = some (.int .i64 4)) :
    SeqStopsK F n Tryd.prog 83 #[.pointer (some ⟨Bs, 0, none⟩), .pointer (some ⟨Bn, 0, none⟩)] (chk4 b off len) (Go.RowKit.Below n₀) (fun ys => ys = upto id ((len + 3) / 4)) (fun pre => ∃ k, k ≤ (len + 3) / 4 ∧ pre = upto id k) ((len + 3) / 4) w := fun l J Jx W hW hJ _ hY h0 => by
  have hW' := hW.mono hn₀
  exact chunk1_in F n h7 hro hn l Bs Bn n₀ b off len cap hreach hlc hcm J Jx hY (fun pre W1 h => hJ pre W1 W1.drew none h ⟨rfl, rfl, rfl, Nat.le_refl _, fun _ _ _ => rfl⟩ (fun r e => by cases e)) W ((hW'.cell (p := ⟨Bs, 0, none⟩) hBs).trans hc) ((hW'.cell (p := ⟨Bn, 0, none⟩) hBn).trans hc2) hBs hBn h0
theorem chunk_stops_nil (F : Fence) (n : Nat) (h7 : F.fn 83) (hro : F.round = none) (Bs Bn n₀ : Nat) (p : Option Addr) (cap : Nat) (b off : Nat) (w : World) (hBs : Bs < n₀) (hn₀ : n₀ ≤ w.heap.size) (hc : w.cell? ⟨Bs, 0, none⟩ = some (.slice p 0 cap)) :
    SeqStopsK F n Tryd.prog 83 #[.pointer (some ⟨Bs, 0, none⟩), .pointer (some ⟨Bn, 0, none⟩)] (chk4 b off 0) (Go.RowKit.Below n₀) (fun ys => ys = upto id ((0 + 3) / 4)) (fun pre => ∃ k, k ≤ (0 + 3) / 4 ∧ pre = upto id k) ((0 + 3) / 4) w := fun l J Jx W hW hJ _ hY h0 => by
  exact (chunk1_nil_in F n h7 hro l Bs Bn p cap J W (((hW.mono hn₀).cell (p := ⟨Bs, 0, none⟩) hBs).trans hc) h0).mono fun e W' ⟨he, hj⟩ => ⟨he, .inl ⟨_, rfl, hj⟩⟩
end Go.Proofs.YtacfehneeanlgaaDoor.Ev
namespace Go.Proofs.YtacfehneeanlgaaDoor.Ev
open Go Go.RowKit Go.Shelf
set_option linter.unusedVariables false
set_option linter.unusedSimpArgs false
attribute [local go_sem] Oper.semAt_some
def ck (xs : List (List D)) (k : Nat) : List (List D) := (xs.drop (4 * k)).take 4
set_option maxRecDepth 100000 in
theorem conv_row (W : World) (b o m c : Nat) (ys : List (List D)) (hl : ys.length = m) (hc : ∀ i, i < m → W.cell? ⟨b, o + i, none⟩ = some (.int .u8 (cellI ys i 0))) :
    (convert 70 9 (.slice (some ⟨b, o, none⟩) m c)).run Tryd.prog W = .ok (.string (rowBytes ys)) W := by
  have h := run_convert_bytes_arg (P := Tryd.prog) W 70 5 (by kernel_rfl) (by kernel_rfl) b o m c (bytesOfRow ys) (by simp [bytesOfRow, hl]) (fun i hi => by
    rw [hc i hi]
    have : i < ys.length := by omega
    simp [bytesOfRow, cellI, this]) 9 (by kernel_rfl)
  rw [h]
  congr 2
  simp [strOfNums, rowBytes, bytesOfRow]
theorem rowBytes_size (ys : List (List D)) : (rowBytes ys).size = ys.length := by
  unfold rowBytes ByteArray.size
  simp
theorem nopW_all : ∀ xs : List (List D), nopW xs = (List.range ((xs.length + 3) / 4)).all fun k => decide (rowBytes (ck xs k) = nopS)
  | [] => rfl
  | a :: b :: c :: d :: r => by
    have e : ((a :: b :: c :: d :: r).length + 3) / 4 = (r.length + 3) / 4 + 1 := by simp only [List.length_cons]; omega
    rw [nopW, e, List.range_succ_eq_map, List.all_cons, nopW_all r, List.all_map]
    congr 1
  | [a] => by
    have : decide (rowBytes [a] = nopS) = false := by
      rw [decide_eq_false_iff_not]; intro h
      have := congrArg ByteArray.size h
      rw [rowBytes_size, show nopS.size = 4 from rfl] at this
      simp at this
    rw [show ([a].length + 3) / 4 = 1 from by simp, List.range_one, List.all_cons, List.all_nil, show ck [a] 0 = [a] from rfl, this]; rfl
  | [a, b] => by
    have : decide (rowBytes [a, b] = nopS) = false := by
      rw [decide_eq_false_iff_not]; intro h
      have := congrArg ByteArray.size h
      rw [rowBytes_size, show nopS.size = 4 from rfl] at this
      simp at this
    rw [show ([a, b].length + 3) / 4 = 1 from by simp, List.range_one, List.all_cons, List.all_nil, show ck [a, b] 0 = [a, b] from rfl, this]; rfl
  | [a, b, c] => by
    have : decide (rowBytes [a, b, c] = nopS) = false := by
      rw [decide_eq_false_iff_not]; intro h
      have := congrArg ByteArray.size h
      rw [rowBytes_size, show nopS.size = 4 from rfl] at this
      simp at this
    rw [show ([a, b, c].length + 3) / 4 = 1 from by simp, List.range_one, List.all_cons, List.all_nil, show ck [a, b, c] 0 = [a, b, c] from rfl, this]; rfl
theorem nop_ne {s : ByteArray} (h : (!(s.toList == [19, 0, 0, 0])) = true) : s ≠ nopS := by
  intro e
  rw [e, ByteArray.toList_eq] at h
  exact absurd h (by decide)
theorem nop_eq {s : ByteArray} (h : (!(s.toList == [19, 0, 0, 0])) = false) : s = nopS := by
  rw [ByteArray.toList_eq] at h
  simp only [Bool.not_eq_false', beq_iff_eq] at h
  exact ByteArray.ext (Array.toList_inj.1 h)
theorem ck_len (xs : List (List D)) (k : Nat) : (ck xs k).length = min 4 (xs.length - 4 * k) := by simp [ck]
theorem ck_cell (xs : List (List D)) (k i : Nat) (h : i < min 4 (xs.length - 4 * k)) : cellI (ck xs k) i 0 = cellI xs (4 * k + i) 0 := by
  have h4 : i < 4 := by omega
  have h5 : 4 * k + i < xs.length := by omega
  simp [cellI, ck, List.getElem?_take_of_lt h4]
set_option maxRecDepth 100000 in
set_option maxHeartbeats 4000000 in
theorem filled_in (F : Fence) (n : Nat) (h3 : F.fn 47) (h5 : F.fn 64) (h7 : F.fn 83) (hro : F.round = none) (hn : 3 ≤ n) (b off cap : Nat) (xs : List (List D)) (w : World) (h1 : xs.length ≤ cap) (h2 : cap ≤ maxLen) (hb : b < w.heap.size) (hreach : xs.length ≤ 140737488351232) (hc : ∀ j, j < xs.length → w.cell? ⟨b, off + j, none⟩ = some (.int .u8 (cellI xs j 0))) :
    CallsIn F n Tryd.prog 47 #[.slice (some ⟨b, off, none⟩) xs.length cap] w fun e W' => e = .returned (.bool (fillB xs)) ∧ Go.RowKit.Below w.heap.size w W' := by
  have h1n : 1 ≤ n := by omega
  refine callsIn_of_wp_marks Tryd.func47 rfl h3 ?_ hro
  simp only [Tryd.ntmps47, List.size_toArray, List.length_cons, List.length_nil, Nat.reduceAdd, Nat.reduceSub, Array.replicate_succ, Array.replicate_zero, List.push_toArray, List.append_toArray, List.nil_append, List.cons_append]
  by_cases hm : xs.length % 4 = 2
  · have c0 : w.cell? ⟨b, off, none⟩ = some (.int .u8 (cellI xs 0 0)) := hc 0 (by omega)
    have c1 : w.cell? ⟨b, off + 1, none⟩ = some (.int .u8 (cellI xs 1 0)) := hc 1 (by omega)
    have hfb : fillB xs = ((cellI xs 0 0 == 1) && (cellI xs 1 0 == 0) && nopW (xs.drop 2)) := by rw [fillB, if_pos hm]
    have hl2 : 2 ≤ xs.length := by omega
    have hm' : (xs.length : Int) % 4 = 2 := by omega
    gi_wp2_with (gi_at_call 64; refine (chunk_in F (n - 1) h5 hro _ _ _ _).mono ?_; rintro e w' ⟨rfl, rfl⟩)
    · have hc5 := (Boxed.new w 4 (.bool false)).cell
      refine ⟨.bool false, ?_, ?_, (Go.RowKit.Below.refl _ w).alloc (Nat.le_refl _) _⟩
      · simp [results, Tryd.f47, go_sem, hc5]
      · have hne : (cellI xs 1 0 != 0) = true := by assumption
        rw [hfb]
        simp only [bne, Bool.not_eq_true'] at hne
        rw [hne]; simp
    · -- THE LOOP
      obtain ⟨ys, hys⟩ : ∃ ys, ys = xs.drop 2 := ⟨_, rfl⟩
      have hyl : xs.length - 2 = ys.length := by rw [hys, List.length_drop]
      rw [← hys] at hfb
      have z0 : cellI xs 0 0 = 1 := by assumption
      have z1 : (cellI xs 1 0 != 0) = false := by assumption
      simp only [bne, Bool.not_eq_false'] at z1
      have hfT : fillB xs = nopW ys := by rw [hfb, z0, z1]; simp
      have hl0 : ys.length ≤ 0 := by omega
      have hcd : ∀ j, j < ys.length → w.cell? ⟨b, off + j, none⟩ = some (.int .u8 (cellI ys j 0)) := fun j hj => absurd hj (by omega)
      simp only [hyl]
      clear hyl h hm hl2
      have hsz : ∀ v : Value, (((w.alloc (.cells #[.bool false] 4)).alloc (.cells #[v] 70)).alloc (.cells #[.int .i64 4] 3)).heap.size = w.heap.size + 3 := fun v => by simp
      have bR := Boxed.new w 4 (.bool false)
      have bN := fun v : Value => Boxed.new (w.alloc (.cells #[.bool false] 4)) 70 v
      have bI := fun v : Value => Boxed.new ((w.alloc (.cells #[.bool false] 4)).alloc (.cells #[v] 70)) 3 (.int .i64 4)
      simp only [World.size_alloc] at bN bI
      have hB0 : ∀ v : Value, Go.RowKit.Below w.heap.size w (((w.alloc (.cells #[.bool false] 4)).alloc (.cells #[v] 70)).alloc (.cells #[.int .i64 4] 3)) := fun v => (((Go.RowKit.Below.refl _ w).alloc (Nat.le_refl _) _).alloc (by simp) _).alloc (by simp; omega) _
      have hst := chunk_stops F (n - 1) h7 hro (by omega) (w.heap.size + 1) (w.heap.size + 2) (w.heap.size + 3) b off ys.length 0 (by omega) (by omega) (by omega) _ (by omega) (by omega) (by simp) ((bN (.slice (some ⟨b, off, none⟩) ys.length 0)).alloc (.cells #[.int .i64 4] 3)).cell (bI (.slice (some ⟨b, off, none⟩) ys.length 0)).cell
      clear hl0 hys
      refine' wpIn_rangeFunc_ownG hro h1n (gf := 83) (lb := #[.pointer (some ⟨w.heap.size + 1, 0, none⟩), .pointer (some ⟨w.heap.size + 2, 0, none⟩)]) rfl h7 (enters_of Tryd.func83 (by kernel_rfl) rfl)
        hst belowK_t (belowK_b (by first | (simp; done) | (simp; omega))) (Go.RowKit.Below.refl _ _) (fun _ => rfl)
        (fun pre W => ((∀ k ∈ pre, rowBytes (ck ys k) = nopS) ∧ W.cell? ⟨w.heap.size, 0, none⟩ = some (.bool false) ∧ W.frozen? ⟨w.heap.size, 0, none⟩ = false) ∧ Go.RowKit.Below w.heap.size w W)
        (fun c pre W => (c = .ret ∧ (∃ k ∈ pre, rowBytes (ck ys k) ≠ nopS) ∧ W.cell? ⟨w.heap.size, 0, none⟩ = some (.bool false)) ∧ Go.RowKit.Below w.heap.size w W)
        (OwnFrom.and (Own.from (fun s A B row hs hg hr => ⟨hs.1, cell_kept hs.2.1 hg hr, (frozen_kept hs.2.1 hg hr).trans hs.2.2⟩) _) (ownFrom_below (Nat.le_refl _) (by first | (simp; done) | (simp; omega))))
        (fun c => OwnFrom.and (Own.from (fun s A B row hs hg hr => ⟨hs.1, hs.2.1, cell_kept hs.2.2 hg hr⟩) _) (ownFrom_below (Nat.le_refl _) (by first | (simp; done) | (simp; omega))))
        ⟨⟨by simp, ((bR.alloc _).alloc _).cell, ((bR.alloc _).alloc _).frozen⟩, hB0 _⟩ _ ?assign ?body ?done ?stop
      case assign =>
        intro l x W K hK
        simp only [chk4]
        gi_wp2
        exact hK
      case body =>
        rintro l pre x W ⟨⟨hp, hcr, hfr⟩, hB⟩ hx
        have hconv := conv_row W b (off + 4 * x) (min 4 (ys.length - 4 * x)) (min 4 (ys.length - 4 * x)) (ck ys x) (ck_len ys x) (fun i hi => by
          rw [ck_cell ys x i hi]
          have e := (hcd) (4 * x + i) (by omega)
          rw [← Nat.add_assoc] at e
          exact (hB.cell (p := ⟨b, off + 4 * x + i, none⟩) hb).trans e)
        gi_wp2
        · have hq := nop_ne (by assumption)
          exact ⟨(KeepsOthers.setCell _ _ _).from _, ⟨rfl, ⟨x, by simp, hq⟩, World.cell?_setCell_same' _ _ _ (by rw [hcr]; rfl)⟩, hB.setCell (p := ⟨w.heap.size, 0, none⟩) (Nat.le_refl _) _⟩
        · have hq := nop_eq (by assumption)
          exact ⟨KeepsFrom.refl _ _, Go.RowKit.Below.refl _ _, ⟨fun k hk => (List.mem_append.1 hk).elim (hp k) (fun e => by simp at e; subst e; exact hq), hcr, hfr⟩, hB⟩
      case done =>
        rintro D ys W hD rfl ⟨⟨hne, hcr, hfr⟩, hB⟩ hK
        gi_wp2
        have hK' := (KeepsOthers.setCell W ⟨w.heap.size, 0, none⟩ (.bool true)).same D _ hK rfl
        refine ⟨by simp, .inl ⟨_, _, rfl, run_takeDeferred hK', ?_⟩⟩
        have hc5 := cell_kept (World.cell?_setCell_same' W ⟨w.heap.size, 0, none⟩ (.bool true) (by rw [hcr]; rfl)) (grownBy_putObj' _ D (.deferred none)) (fun r e => by cases e; exact ⟨_, hK', rfl⟩)
        have hT : nopW ys = true := by
          rw [nopW_all, List.all_eq_true]
          exact fun k hk => decide_eq_true (hne k (by simpa [upto] using hk))
        refine ⟨.bool true, ?_, by rw [hfT, hT], (hB.setCell (p := ⟨w.heap.size, 0, none⟩) (Nat.le_refl _) _).trans (belowK_b (w := w) (Nat.le_refl _) _ D _ _ (by simp at hD; omega) hK' rfl rfl)⟩
        simp [results, Tryd.f47, go_sem, hc5]
      case stop =>
        rintro D c pre W hD ⟨k, hk, rfl⟩ ⟨⟨rfl, ⟨k', hk', hne⟩, hcr⟩, hB⟩ hK
        gi_wp2
        refine ⟨by simp, .inl ⟨_, _, rfl, run_takeDeferred hK, ?_⟩⟩
        have hc5 := cell_kept hcr (grownBy_putObj' _ D (.deferred none)) (fun r e => by cases e; exact ⟨_, hK, rfl⟩)
        have hT : nopW ys = false := by
          rw [nopW_all, List.all_eq_false]
          exact ⟨k', by simp [upto] at hk' ⊢; omega, by simpa using hne⟩
        refine ⟨.bool false, ?_, by rw [hfT, hT], hB.trans (belowK_b (w := w) (Nat.le_refl _) W D _ _ (by simp at hD; omega) hK rfl rfl)⟩
        simp [results, Tryd.f47, go_sem, hc5]
    · -- THE LOOP
      obtain ⟨ys, hys⟩ : ∃ ys, ys = xs.drop 2 := ⟨_, rfl⟩
      have hyl : xs.length - 2 = ys.length := by rw [hys, List.length_drop]
      rw [← hys] at hfb
      have z0 : cellI xs 0 0 = 1 := by assumption
      have z1 : (cellI xs 1 0 != 0) = false := by assumption
      simp only [bne, Bool.not_eq_false'] at z1
      have hfT : fillB xs = nopW ys := by rw [hfb, z0, z1]; simp
      have hcd : ∀ j, j < ys.length → w.cell? ⟨b, off + 2 + j, none⟩ = some (.int .u8 (cellI ys j 0)) := fun j hj => by
        have e := hc (2 + j) (by omega)
        rw [← Nat.add_assoc] at e
        rw [e, hys]; simp [cellI]
      simp only [hyl]
      have hsz : ∀ v : Value, (((w.alloc (.cells #[.bool false] 4)).alloc (.cells #[v] 70)).alloc (.cells #[.int .i64 4] 3)).heap.size = w.heap.size + 3 := fun v => by simp
      have bR := Boxed.new w 4 (.bool false)
      have bN := fun v : Value => Boxed.new (w.alloc (.cells #[.bool false] 4)) 70 v
      have bI := fun v : Value => Boxed.new ((w.alloc (.cells #[.bool false] 4)).alloc (.cells #[v] 70)) 3 (.int .i64 4)
      simp only [World.size_alloc] at bN bI
      have hB0 : ∀ v : Value, Go.RowKit.Below w.heap.size w (((w.alloc (.cells #[.bool false] 4)).alloc (.cells #[v] 70)).alloc (.cells #[.int .i64 4] 3)) := fun v => (((Go.RowKit.Below.refl _ w).alloc (Nat.le_refl _) _).alloc (by simp) _).alloc (by simp; omega) _
      have hst := chunk_stops F (n - 1) h7 hro (by omega) (w.heap.size + 1) (w.heap.size + 2) (w.heap.size + 3) b (off + 2) ys.length (cap - 2) (by omega) (by omega) (by omega) _ (by omega) (by omega) (by simp) ((bN (.slice (some ⟨b, (off + 2), none⟩) ys.length (cap - 2))).alloc (.cells #[.int .i64 4] 3)).cell (bI (.slice (some ⟨b, (off + 2), none⟩) ys.length (cap - 2))).cell
      clear hyl hys hm hl2
      refine' wpIn_rangeFunc_ownG hro h1n (gf := 83) (lb := #[.pointer (some ⟨w.heap.size + 1, 0, none⟩), .pointer (some ⟨w.heap.size + 2, 0, none⟩)]) rfl h7 (enters_of Tryd.func83 (by kernel_rfl) rfl)
        hst belowK_t (belowK_b (by first | (simp; done) | (simp; omega))) (Go.RowKit.Below.refl _ _) (fun _ => rfl)
        (fun pre W => ((∀ k ∈ pre, rowBytes (ck ys k) = nopS) ∧ W.cell? ⟨w.heap.size, 0, none⟩ = some (.bool false) ∧ W.frozen? ⟨w.heap.size, 0, none⟩ = false) ∧ Go.RowKit.Below w.heap.size w W)
        (fun c pre W => (c = .ret ∧ (∃ k ∈ pre, rowBytes (ck ys k) ≠ nopS) ∧ W.cell? ⟨w.heap.size, 0, none⟩ = some (.bool false)) ∧ Go.RowKit.Below w.heap.size w W)
        (OwnFrom.and (Own.from (fun s A B row hs hg hr => ⟨hs.1, cell_kept hs.2.1 hg hr, (frozen_kept hs.2.1 hg hr).trans hs.2.2⟩) _) (ownFrom_below (Nat.le_refl _) (by first | (simp; done) | (simp; omega))))
        (fun c => OwnFrom.and (Own.from (fun s A B row hs hg hr => ⟨hs.1, hs.2.1, cell_kept hs.2.2 hg hr⟩) _) (ownFrom_below (Nat.le_refl _) (by first | (simp; done) | (simp; omega))))
        ⟨⟨by simp, ((bR.alloc _).alloc _).cell, ((bR.alloc _).alloc _).frozen⟩, hB0 _⟩ _ ?assign ?body ?done ?stop
      case assign =>
        intro l x W K hK
        simp only [chk4]
        gi_wp2
        exact hK
      case body =>
        rintro l pre x W ⟨⟨hp, hcr, hfr⟩, hB⟩ hx
        have hconv := conv_row W b ((off + 2) + 4 * x) (min 4 (ys.length - 4 * x)) (min 4 (ys.length - 4 * x)) (ck ys x) (ck_len ys x) (fun i hi => by
          rw [ck_cell ys x i hi]
          have e := (hcd) (4 * x + i) (by omega)
          rw [← Nat.add_assoc] at e
          exact (hB.cell (p := ⟨b, (off + 2) + 4 * x + i, none⟩) hb).trans e)
        gi_wp2
        · have hq := nop_ne (by assumption)
          exact ⟨(KeepsOthers.setCell _ _ _).from _, ⟨rfl, ⟨x, by simp, hq⟩, World.cell?_setCell_same' _ _ _ (by rw [hcr]; rfl)⟩, hB.setCell (p := ⟨w.heap.size, 0, none⟩) (Nat.le_refl _) _⟩
        · have hq := nop_eq (by assumption)
          exact ⟨KeepsFrom.refl _ _, Go.RowKit.Below.refl _ _, ⟨fun k hk => (List.mem_append.1 hk).elim (hp k) (fun e => by simp at e; subst e; exact hq), hcr, hfr⟩, hB⟩
      case done =>
        rintro D ys W hD rfl ⟨⟨hne, hcr, hfr⟩, hB⟩ hK
        gi_wp2
        have hK' := (KeepsOthers.setCell W ⟨w.heap.size, 0, none⟩ (.bool true)).same D _ hK rfl
        refine ⟨by simp, .inl ⟨_, _, rfl, run_takeDeferred hK', ?_⟩⟩
        have hc5 := cell_kept (World.cell?_setCell_same' W ⟨w.heap.size, 0, none⟩ (.bool true) (by rw [hcr]; rfl)) (grownBy_putObj' _ D (.deferred none)) (fun r e => by cases e; exact ⟨_, hK', rfl⟩)
        have hT : nopW ys = true := by
          rw [nopW_all, List.all_eq_true]
          exact fun k hk => decide_eq_true (hne k (by simpa [upto] using hk))
        refine ⟨.bool true, ?_, by rw [hfT, hT], (hB.setCell (p := ⟨w.heap.size, 0, none⟩) (Nat.le_refl _) _).trans (belowK_b (w := w) (Nat.le_refl _) _ D _ _ (by simp at hD; omega) hK' rfl rfl)⟩
        simp [results, Tryd.f47, go_sem, hc5]
      case stop =>
        rintro D c pre W hD ⟨k, hk, rfl⟩ ⟨⟨rfl, ⟨k', hk', hne⟩, hcr⟩, hB⟩ hK
        gi_wp2
        refine ⟨by simp, .inl ⟨_, _, rfl, run_takeDeferred hK, ?_⟩⟩
        have hc5 := cell_kept hcr (grownBy_putObj' _ D (.deferred none)) (fun r e => by cases e; exact ⟨_, hK, rfl⟩)
        have hT : nopW ys = false := by
          rw [nopW_all, List.all_eq_false]
          exact ⟨k', by simp [upto] at hk' ⊢; omega, by simpa using hne⟩
        refine ⟨.bool false, ?_, by rw [hfT, hT], hB.trans (belowK_b (w := w) (Nat.le_refl _) W D _ _ (by simp at hD; omega) hK rfl rfl)⟩
        simp [results, Tryd.f47, go_sem, hc5]
    · have hc5 := (Boxed.new w 4 (.bool false)).cell
      refine ⟨.bool false, ?_, ?_, (Go.RowKit.Below.refl _ w).alloc (Nat.le_refl _) _⟩
      · simp [results, Tryd.f47, go_sem, hc5]
      · rw [hfb, show (cellI xs 0 0 == 1) = false from beq_eq_false_iff_ne.2 (by assumption)]; rfl
  · have hm' : ¬ (xs.length : Int) % 4 = 2 := by omega
    have hfb : fillB xs = nopW xs := by rw [fillB, if_neg hm]
    gi_wp2_with (gi_at_call 64; refine (chunk_in F (n - 1) h5 hro _ _ _ _).mono ?_; rintro e w' ⟨rfl, rfl⟩)
    · -- THE LOOP
      have hsz : ∀ v : Value, (((w.alloc (.cells #[.bool false] 4)).alloc (.cells #[v] 70)).alloc (.cells #[.int .i64 4] 3)).heap.size = w.heap.size + 3 := fun v => by simp
      have bR := Boxed.new w 4 (.bool false)
      have bN := fun v : Value => Boxed.new (w.alloc (.cells #[.bool false] 4)) 70 v
      have bI := fun v : Value => Boxed.new ((w.alloc (.cells #[.bool false] 4)).alloc (.cells #[v] 70)) 3 (.int .i64 4)
      simp only [World.size_alloc] at bN bI
      have hB0 : ∀ v : Value, Go.RowKit.Below w.heap.size w (((w.alloc (.cells #[.bool false] 4)).alloc (.cells #[v] 70)).alloc (.cells #[.int .i64 4] 3)) := fun v => (((Go.RowKit.Below.refl _ w).alloc (Nat.le_refl _) _).alloc (by simp) _).alloc (by simp; omega) _
      have hst := chunk_stops F (n - 1) h7 hro (by omega) (w.heap.size + 1) (w.heap.size + 2) (w.heap.size + 3) b off xs.length cap (by omega) (by omega) (by omega) _ (by omega) (by omega) (by simp) ((bN (.slice (some ⟨b, off, none⟩) xs.length cap)).alloc (.cells #[.int .i64 4] 3)).cell (bI (.slice (some ⟨b, off, none⟩) xs.length cap)).cell
      skip
      refine' wpIn_rangeFunc_ownG hro h1n (gf := 83) (lb := #[.pointer (some ⟨w.heap.size + 1, 0, none⟩), .pointer (some ⟨w.heap.size + 2, 0, none⟩)]) rfl h7 (enters_of Tryd.func83 (by kernel_rfl) rfl)
        hst belowK_t (belowK_b (by first | (simp; done) | (simp; omega))) (Go.RowKit.Below.refl _ _) (fun _ => rfl)
        (fun pre W => ((∀ k ∈ pre, rowBytes (ck xs k) = nopS) ∧ W.cell? ⟨w.heap.size, 0, none⟩ = some (.bool false) ∧ W.frozen? ⟨w.heap.size, 0, none⟩ = false) ∧ Go.RowKit.Below w.heap.size w W)
        (fun c pre W => (c = .ret ∧ (∃ k ∈ pre, rowBytes (ck xs k) ≠ nopS) ∧ W.cell? ⟨w.heap.size, 0, none⟩ = some (.bool false)) ∧ Go.RowKit.Below w.heap.size w W)
        (OwnFrom.and (Own.from (fun s A B row hs hg hr => ⟨hs.1, cell_kept hs.2.1 hg hr, (frozen_kept hs.2.1 hg hr).trans hs.2.2⟩) _) (ownFrom_below (Nat.le_refl _) (by first | (simp; done) | (simp; omega))))
        (fun c => OwnFrom.and (Own.from (fun s A B row hs hg hr => ⟨hs.1, hs.2.1, cell_kept hs.2.2 hg hr⟩) _) (ownFrom_below (Nat.le_refl _) (by first | (simp; done) | (simp; omega))))
        ⟨⟨by simp, ((bR.alloc _).alloc _).cell, ((bR.alloc _).alloc _).frozen⟩, hB0 _⟩ _ ?assign ?body ?done ?stop
      case assign =>
        intro l x W K hK
        simp only [chk4]
        gi_wp2
        exact hK
      case body =>
        rintro l pre x W ⟨⟨hp, hcr, hfr⟩, hB⟩ hx
        have hconv := conv_row W b (off + 4 * x) (min 4 (xs.length - 4 * x)) (min 4 (xs.length - 4 * x)) (ck xs x) (ck_len xs x) (fun i hi => by
          rw [ck_cell xs x i hi]
          have e := (hc) (4 * x + i) (by omega)
          rw [← Nat.add_assoc] at e
          exact (hB.cell (p := ⟨b, off + 4 * x + i, none⟩) hb).trans e)
        gi_wp2
        · have hq := nop_ne (by assumption)
          exact ⟨(KeepsOthers.setCell _ _ _).from _, ⟨rfl, ⟨x, by simp, hq⟩, World.cell?_setCell_same' _ _ _ (by rw [hcr]; rfl)⟩, hB.setCell (p := ⟨w.heap.size, 0, none⟩) (Nat.le_refl _) _⟩
        · have hq := nop_eq (by assumption)
          exact ⟨KeepsFrom.refl _ _, Go.RowKit.Below.refl _ _, ⟨fun k hk => (List.mem_append.1 hk).elim (hp k) (fun e => by simp at e; subst e; exact hq), hcr, hfr⟩, hB⟩
      case done =>
        rintro D ys W hD rfl ⟨⟨hne, hcr, hfr⟩, hB⟩ hK
        gi_wp2
        have hK' := (KeepsOthers.setCell W ⟨w.heap.size, 0, none⟩ (.bool true)).same D _ hK rfl
        refine ⟨by simp, .inl ⟨_, _, rfl, run_takeDeferred hK', ?_⟩⟩
        have hc5 := cell_kept (World.cell?_setCell_same' W ⟨w.heap.size, 0, none⟩ (.bool true) (by rw [hcr]; rfl)) (grownBy_putObj' _ D (.deferred none)) (fun r e => by cases e; exact ⟨_, hK', rfl⟩)
        have hT : nopW xs = true := by
          rw [nopW_all, List.all_eq_true]
          exact fun k hk => decide_eq_true (hne k (by simpa [upto] using hk))
        refine ⟨.bool true, ?_, by rw [hfb, hT], (hB.setCell (p := ⟨w.heap.size, 0, none⟩) (Nat.le_refl _) _).trans (belowK_b (w := w) (Nat.le_refl _) _ D _ _ (by simp at hD; omega) hK' rfl rfl)⟩
        simp [results, Tryd.f47, go_sem, hc5]
      case stop =>
        rintro D c pre W hD ⟨k, hk, rfl⟩ ⟨⟨rfl, ⟨k', hk', hne⟩, hcr⟩, hB⟩ hK
        gi_wp2
        refine ⟨by simp, .inl ⟨_, _, rfl, run_takeDeferred hK, ?_⟩⟩
        have hc5 := cell_kept hcr (grownBy_putObj' _ D (.deferred none)) (fun r e => by cases e; exact ⟨_, hK, rfl⟩)
        have hT : nopW xs = false := by
          rw [nopW_all, List.all_eq_false]
          exact ⟨k', by simp [upto] at hk' ⊢; omega, by simpa using hne⟩
        refine ⟨.bool false, ?_, by rw [hfb, hT], hB.trans (belowK_b (w := w) (Nat.le_refl _) W D _ _ (by simp at hD; omega) hK rfl rfl)⟩
        simp [results, Tryd.f47, go_sem, hc5]
set_option maxRecDepth 100000 in
set_option maxHeartbeats 1000000 in
theorem filled_nil_in (F : Fence) (n : Nat) (h3 : F.fn 47) (h5 : F.fn 64) (h7 : F.fn 83) (hro : F.round = none) (hn : 3 ≤ n) (p : Option Addr) (cap : Nat) (w : World) :
    CallsIn F n Tryd.prog 47 #[.slice p 0 cap] w fun e W' => e = .returned (.bool true) ∧ Go.RowKit.Below w.heap.size w W' := by
  have h1n : 1 ≤ n := by omega
  refine callsIn_of_wp_marks Tryd.func47 rfl h3 ?_ hro
  simp only [Tryd.ntmps47, List.size_toArray, List.length_cons, List.length_nil, Nat.reduceAdd, Nat.reduceSub, Array.replicate_succ, Array.replicate_zero, List.push_toArray, List.append_toArray, List.nil_append, List.cons_append]
  gi_wp2_with (gi_at_call 64; refine (chunk_in F (n - 1) h5 hro _ _ _ _).mono ?_; rintro e w' ⟨rfl, rfl⟩)
  have bR := Boxed.new w 4 (.bool false)
  have bN := fun v : Value => Boxed.new (w.alloc (.cells #[.bool false] 4)) 70 v
  simp only [World.size_alloc] at bN
  have hB0 : ∀ v : Value, Go.RowKit.Below w.heap.size w (((w.alloc (.cells #[.bool false] 4)).alloc (.cells #[v] 70)).alloc (.cells #[.int .i64 4] 3)) := fun v => (((Go.RowKit.Below.refl _ w).alloc (Nat.le_refl _) _).alloc (by simp) _).alloc (by simp; omega) _
  refine' wpIn_rangeFunc_ownG hro h1n (gf := 83) (lb := #[.pointer (some ⟨w.heap.size + 1, 0, none⟩), .pointer (some ⟨w.heap.size + 2, 0, none⟩)]) rfl h7 (enters_of Tryd.func83 (by kernel_rfl) rfl)
    (chunk_stops_nil F (n - 1) h7 hro (w.heap.size + 1) (w.heap.size + 2) (w.heap.size + 3) p cap 0 0 _ (by omega) (by simp) ((bN (.slice p 0 cap)).alloc (.cells #[.int .i64 4] 3)).cell) belowK_t (belowK_b (by first | (simp; done) | (simp; omega))) (Go.RowKit.Below.refl _ _) (fun _ => rfl)
    (fun pre W => (W.cell? ⟨w.heap.size, 0, none⟩ = some (.bool false) ∧ W.frozen? ⟨w.heap.size, 0, none⟩ = false) ∧ Go.RowKit.Below w.heap.size w W)
    (fun c pre W => (c = .ret ∧ pre ≠ []) ∧ Go.RowKit.Below w.heap.size w W)
    (OwnFrom.and (Own.from (fun s A B row hs hg hr => ⟨cell_kept hs.1 hg hr, (frozen_kept hs.1 hg hr).trans hs.2⟩) _) (ownFrom_below (Nat.le_refl _) (by first | (simp; done) | (simp; omega))))
    (fun c => OwnFrom.and (Own.from (fun s A B row hs hg hr => hs) _) (ownFrom_below (Nat.le_refl _) (by first | (simp; done) | (simp; omega))))
    ⟨⟨((bR.alloc _).alloc _).cell, ((bR.alloc _).alloc _).frozen⟩, hB0 _⟩ _ ?assign ?body ?done ?stop
  case assign =>
    intro l x W K hK
    simp only [chk4]
    gi_wp2
    exact hK
  case body =>
    rintro l pre x W ⟨⟨hcr, hfr⟩, hB⟩ hx
    simp at hx
  case done =>
    rintro D ys W hD rfl ⟨⟨hcr, hfr⟩, hB⟩ hK
    gi_wp2
    have hK' := (KeepsOthers.setCell W ⟨w.heap.size, 0, none⟩ (.bool true)).same D _ hK rfl
    refine ⟨by simp, .inl ⟨_, _, rfl, run_takeDeferred hK', ?_⟩⟩
    have hc5 := cell_kept (World.cell?_setCell_same' W ⟨w.heap.size, 0, none⟩ (.bool true) (by rw [hcr]; rfl)) (grownBy_putObj' _ D (.deferred none)) (fun r e => by cases e; exact ⟨_, hK', rfl⟩)
    refine ⟨.bool true, ?_, rfl, (hB.setCell (p := ⟨w.heap.size, 0, none⟩) (Nat.le_refl _) _).trans (belowK_b (w := w) (Nat.le_refl _) _ D _ _ (by simp at hD; omega) hK' rfl rfl)⟩
    simp [results, Tryd.f47, go_sem, hc5]
  case stop =>
    rintro D c pre W hD ⟨k, hk, rfl⟩ ⟨⟨rfl, hne⟩, hB⟩ hK
    have : k = 0 := by omega
    subst this
    exact absurd rfl hne
theorem con_fil : ∀ vs v, pFil vs = true → gFil vs = some v → Contract Tryd.prog 47 vs [] (v, []) := by
  intro vs v hp h
  unfold gFil at h
  split at h <;> cases h
  rename_i xs
  refine contract_walk trivial fun g w cargs hH => ?_
  obtain ⟨c, a1, a2⟩ := hH.args 0 _ rfl
  have hs := hH.size
  have hc : cargs = #[c] := by
    apply Array.ext
    · simpa using hs
    · intro i h1 h2
      match i with
      | 0 => rw [Array.getElem?_eq_getElem h1] at a1; simpa using a1
      | _ + 1 => simp at hs; omega
  subst hc
  have hd := arr_d a2
  generalize hx : D.arr xs = d at hd
  cases hd with
  | nil _ _ p hn =>
    subst hx
    have : xs = [] := hn
    subst this
    exact (callsIn_wide.1 (filled_nil_in _ 3 trivial trivial trivial rfl (by omega) p 0 w)).mono fun e w' ⟨he, hb⟩ => ⟨_, he, .val _ _, hb⟩
  | arr _ _ b o cap f hn hm hcc hdd =>
    subst hx
    simp only [D.toArr] at hn hcc hdd ⊢
    simp only [pFil, decide_eq_true_eq] at hp
    by_cases h0 : xs.length = 0
    · have : xs = [] := List.eq_nil_of_length_eq_zero h0
      subst this
      exact (callsIn_wide.1 (filled_nil_in _ 3 trivial trivial trivial rfl (by omega) (some (pl b o)) cap w)).mono fun e w' ⟨he, hb⟩ => ⟨_, he, .val _ _, hb⟩
    · have cell : ∀ j, j < xs.length → w.cell? ⟨b, o + j, none⟩ = some (.int .u8 (cellI xs j 0)) := fun j hj => by
        obtain ⟨_, h2⟩ := hcc j 0 hj (by simp)
        have h3 := hdd j 0 (.int .u8) hj rfl
        simp only [List.length_cons, List.length_nil, Nat.zero_add, Nat.mul_one, Nat.add_zero] at h2
        rw [h2]
        generalize f j 0 = z at h3
        cases h3
        rfl
      exact (callsIn_wide.1 (filled_in _ 3 trivial trivial trivial rfl (by omega) b o cap xs w hn hm (cell_lt (cell 0 (by omega))) (by omega) cell)).mono fun e w' ⟨he, hb⟩ => ⟨_, he, .val _ _, hb⟩
end Go.Proofs.YtacfehneeanlgaaDoor.Ev
