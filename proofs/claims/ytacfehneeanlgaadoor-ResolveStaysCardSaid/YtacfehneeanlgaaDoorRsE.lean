/- slices.Repeat at no copies: walked with the kit's words. Names (resolve): slices.Repeat of one true; what Check computes. -/
import Derived.Test.YtacfehneeanlgaaDoorRtA
namespace Go.Proofs.YtacfehneeanlgaaDoor.Ev
open Go Go.RowKit Go.Shelf Go.Maps
set_option linter.unusedVariables false
set_option linter.unusedSimpArgs false
theorem under_retN {s r : Slot} (h : Slot.under s r) : r = .ret → s = .ret := by
  induction h with
  | refl s => exact id
  | sub s r i _ ih => intro e; have := ih e; cases this
/-- A walked function that answers an empty slice of its own. -/
theorem contract_new0 {P : Program} {f : Nat} {vs : List V} {cs : List CT}
    (h : ∀ (g : Gh) (w : World) (cargs : Array Value), Handed g w vs [] cargs → Calls P f cargs w fun e w' => ∃ b cap cur t, e = .returned (.slice (some (pl b 0)) 0 cap) ∧ w.heap.size ≤ b ∧ w'.heap[b]? = some (.cells cur t) ∧ cur.size = cap * cs.length ∧ cap ≤ maxLen ∧ Go.RowKit.Below w.heap.size w w') : Contract P f vs [] (.uni cs [], []) := by
  intro g w cargs hH
  refine (h g w cargs hH).mono fun e w' ⟨b, cap, cur, t, he, hb, hc, hs, hm, hB⟩ => ?_
  have lt : ∀ b, g.own b ≠ .free → b < w.heap.size := fun b hne => Nat.lt_of_not_le fun hle => hne (hH.fresh b hle)
  have hlt : b < w'.heap.size := (Array.getElem?_eq_some_iff.1 hc).1
  refine ⟨_, g.set b (.arr .ret 0), he, .uni _ _ _ _ (.inr ⟨b, cap, cur, (t, (0, 0)), rfl, Nat.zero_le _, hm, by simp [Gh.set], hc, ⟨hs, unfz_none _⟩, fun i j ct hi => by simp at hi⟩), trivial, rfl, fun i cs hi => by simp at hi, ?_, ?_, ?_⟩
  · refine ⟨hB.os, hB.tape, hB.output, hB.size, fun b1 hb1 ho => ⟨hB.block b1 hb1, by simp only [Gh.set]; rw [if_neg (by omega)]; exact ho⟩, fun b1 l ho => ?_, fun b1 s l ho => ?_, fun b1 k ho => ?_, fun i b hb => hb⟩
    · have h1 := lt b1 (by rw [ho]; exact fun e => by cases e)
      exact ⟨hB.block b1 h1, by simp only [Gh.set]; rw [if_neg (by omega)]; exact ho⟩
    · have h1 := lt b1 (by rw [ho]; exact fun e => by cases e)
      exact ⟨fun o c _ hc => by rw [cell_of_heap (hB.block b1 h1)]; exact hc, .inr (.inr ⟨s, l, by simp only [Gh.set]; rw [if_neg (by omega)]; exact ho, Nat.le_refl _⟩)⟩
    · have h1 := lt b1 (by rw [ho]; exact fun e => by cases e)
      simp only [Gh.set]; rw [if_neg (by omega)]; exact ho
  · intro b1 hb1
    simp only [Gh.set]
    rw [if_neg (by omega)]
    exact hH.fresh b1 (Nat.le_trans hB.size hb1)
  · intro b1 s l hu ho
    simp only [Gh.set] at ho
    split at ho
    · cases ho; have := under_retN hu rfl; cases this
    · exact hH.nones b1 s l hu ho
theorem mul_calls (W : World) (hG : GlobW W) : Calls Tryd.prog 37 #[.int .u64 1, .int .u64 0] W fun e W' => e = .returned (.tuple #[.int .u64 0, .int .u64 0]) ∧ Go.RowKit.Below W.heap.size W W' := by
  have hc : call el0 300 37 [.val (.int .u64 1), .val (.int .u64 0)] [] = some (.tup [.val (.int .u64 0), .val (.int .u64 0)], []) := by kernel_rfl
  refine (calls_of_con (call_contract (el_info []) (el_ext ExtAll.nil) hc) W _ rfl hG (fun i u hi => ?_)).mono fun e W' ⟨c, g', he, hv, hb, _⟩ => ?_
  · match i with
    | 0 => simp at hi; subst hi; exact ⟨_, rfl, .val _ _⟩
    | 1 => simp at hi; subst hi; exact ⟨_, rfl, .val _ _⟩
    | i + 2 => simp at hi
  · cases hv with
    | tup _ _ cs hl hn h =>
      obtain ⟨cs⟩ := cs
      match cs, hl with
      | [v0, v1], _ =>
        have h0 := h 0 _ v0 rfl rfl
        have h1 := h 1 _ v1 rfl rfl
        rw [val_inv h0, val_inv h1] at he
        exact ⟨he, hb⟩
theorem wpList_copy0 {ops : Array Oper} {rest : List Oper} {o : Oper} {a : Act} {Q : Exit → Act → World → Prop} (w : World) (hg : o.guard = none) (t x : Operand) (hop : o.op = Op.call { callee := .builtin .copy, args := #[t, x], argTypes := #[36, 36] }) (q px : Option Addr) (cq n cx : Nat)
    (ht : a.eval t = .slice q 0 cq) (hx : a.eval x = .slice px n cx) (hK : wpList Tryd.prog ops Q rest (a.put o.dst (.int .i64 0)) w) : wpList Tryd.prog ops Q (o :: rest) a w := by
  refine wpList_plain hg fun K' hK' => ?_
  have hs1 : (Tryd.prog.info? 4).map (·.size) = some 1 := by kernel_rfl
  have hrun := run_copy_none (P := Tryd.prog) w 36 36 o.type 4 q px 0 cq n cx Tryd.underlying36 hs1 (by simp)
  have he : execOp a.eval o = (Builtin.copy_ #[36, 36] o.type #[a.eval t, a.eval x]).bind fun v => .pure (.value v) := by
    rw [callBuiltin hop, show (#[t, x] : Array Operand).map a.eval = #[a.eval t, a.eval x] by simp]; rfl
  unfold Oper.wp
  rw [he, ht, hx, run_then hrun]
  exact hK' _ _ hK
set_option maxRecDepth 100000 in
set_option maxHeartbeats 4000000 in
theorem rep0_calls (w : World) (hG : GlobW w) (p : Addr) (c : Nat) : Calls Tryd.prog 26 #[.slice (some p) 1 c, .int .i64 0] w fun e W' => ∃ b cap cur t, e = .returned (.slice (some (pl b 0)) 0 cap) ∧ w.heap.size ≤ b ∧ W'.heap[b]? = some (.cells cur t) ∧ cur.size = cap * 1 ∧ cap ≤ maxLen ∧ Go.RowKit.Below w.heap.size w W' := by
  have hmk : ∀ W : World, (Instr.makeSlice 36 (.int .i64 0) (.int .i64 0)).run Tryd.prog W = .ok (.slice (some ⟨W.heap.size, 0, none⟩) 0 0) (W.alloc (.cells #[] 4)) := fun W => by
    obtain ⟨ib, hib, hz0, hz1, hz2⟩ := info_parts (show (Tryd.prog.info? 4).map (fun i => (i.zero, i.size, i.bytes)) = some (some (.bool false), 1, 1) by kernel_rfl)
    have := run_make (P := Tryd.prog) W 36 4 ib (.bool false) Tryd.underlying36 hib hz0 .i64 .i64 0 0 (by omega) (by omega) (by rw [hz2]; omega) (by omega)
    rw [hz1] at this
    have e : madeCells (Value.bool false).cells (Int.toNat 0 * 1) = #[] := by simp [madeCells]
    rw [e] at this
    exact this
  go_enter Tryd.func26, Tryd.ntmps26
  go_wp2_with (first
    | (go_at_call 37; refine (mul_calls _ hG).mono ?_; rintro e W2 ⟨rfl, hb2⟩)
    | (refine wpList_copy0 _ rfl _ _ rfl _ _ _ _ _ rfl rfl ?_)
    | go_in)
  have hs2 := hb2.size
  go_loopw [8] (fun i wr => i = .int .i64 0 ∧ wr.heap[W2.heap.size]? = some (.cells #[] 4) ∧ Go.RowKit.Below w.heap.size w wr) (fun _ _ => 0)
  case atStart =>
    refine ⟨rfl, ?_, hb2.alloc hs2 _⟩
    exact heap_push_new W2 _
  case round =>
    obtain ⟨rfl, hc, hB⟩ := hrel
    go_wp2
    go_ret
    exact ⟨_, 0, #[], 4, rfl, hs2, hc, rfl, by unfold maxLen; omega, hB⟩
end Go.Proofs.YtacfehneeanlgaaDoor.Ev
namespace Go.Proofs.YtacfehneeanlgaaDoor.Ev
open Go
set_option linter.unusedVariables false
set_option linter.unusedSimpArgs false
def gRep : List V → Option V
  | [.arr [.bool] [[.bool true]], .val (.int .i64 n)] => some (.uni [.bool] (List.replicate n.toNat [.bool true]))
  | _ => none
def pRep : List V → Bool
  | [.arr [.bool] [[.bool true]], .val (.int .i64 n)] => decide (0 ≤ n) && decide (n ≤ 16)
  | _ => true
theorem con_rep : ∀ vs v, pRep vs = true → gRep vs = some v → Contract Tryd.prog 26 vs [] (v, []) := by
  intro vs v hp h
  unfold gRep at h
  split at h <;> cases h
  rename_i n
  simp only [pRep, Bool.and_eq_true, decide_eq_true_eq] at hp
  by_cases h0 : n = 0
  · subst h0
    refine contract_new0 fun g w cargs hH => ?_
    obtain ⟨c1, a1, a2⟩ := hH.args 0 _ rfl
    obtain ⟨c2, b1, b2⟩ := hH.args 1 _ rfl
    have hs := hH.size
    have hd := arr_d a2
    rcases row_inv (s := .none) hd with ⟨h3, _⟩ | ⟨b, q, cap, rfl, _, _⟩
    · cases h3
    have e2 := val_inv b2
    subst e2
    have hc : cargs = #[.slice (some (pl b q)) 1 cap, .int .i64 0] := by
      apply Array.ext
      · simpa using hs
      · intro i h1 h2
        match i with
        | 0 => rw [Array.getElem?_eq_getElem h1] at a1; simpa using a1
        | 1 => rw [Array.getElem?_eq_getElem h1] at b1; simpa using b1
        | _ + 2 => simp at hs; omega
    subst hc
    exact rep0_calls w (fun x hx => (hH.glob x hx).2) _ _
  have go : ∀ k : Nat, 1 ≤ k → k ≤ 16 → call el0 600 26 [.arr [.bool] [[.bool true]], .val (.int .i64 (k : Nat))] [] = some (.uni [.bool] (List.replicate k [.bool true]), []) := fun k hk1 hk =>
    match k, hk1, hk with
    | 0, h, _ => absurd h (by omega)
    | 1, _, _ => by kernel_rfl
    | 2, _, _ => by kernel_rfl
    | 3, _, _ => by kernel_rfl
    | 4, _, _ => by kernel_rfl
    | 5, _, _ => by kernel_rfl
    | 6, _, _ => by kernel_rfl
    | 7, _, _ => by kernel_rfl
    | 8, _, _ => by kernel_rfl
    | 9, _, _ => by kernel_rfl
    | 10, _, _ => by kernel_rfl
    | 11, _, _ => by kernel_rfl
    | 12, _, _ => by kernel_rfl
    | 13, _, _ => by kernel_rfl
    | 14, _, _ => by kernel_rfl
    | 15, _, _ => by kernel_rfl
    | 16, _, _ => by kernel_rfl
    | k + 17, _, h => absurd h (by omega)
  obtain ⟨k, rfl⟩ : ∃ k : Nat, n = (k : Int) := ⟨n.toNat, by omega⟩
  exact call_contract (el_info []) (el_ext ExtAll.nil) (go k (by omega) (by omega))
noncomputable def lrC : List (Nat × ExtF) := (26, exP [.sl bls, .no] pRep gRep) :: (27, exP [.sl bls, .sl bls] pEqb gEqb) :: lc5
theorem lrC_ok : ExtAll Tryd.prog lrC := .normP con_rep (.normP con_eqb lc5_ok)
noncomputable def rs2 : Info := infoL Tryd.prog lrC ent keepOf
end Go.Proofs.YtacfehneeanlgaaDoor.Ev
