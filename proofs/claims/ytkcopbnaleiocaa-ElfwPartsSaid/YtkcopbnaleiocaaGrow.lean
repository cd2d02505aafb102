/- slices.Grow, at nil: an empty slice whose room is the caller's own. (The kit's contract, told in the frame's words.) -/
import Derived.Test.YtkcopbnaleiocaaSym
import Derived.Shelf.Spec.SlicesGrow
namespace Go.Proofs.Ytkcopbnaleiocaa.Ev
open Go Go.Shelf
set_option linter.unusedVariables false
set_option linter.unusedSimpArgs false
def growRen : Ren := ⟨fun n => match n with | 4 => 167 | n => n, fun n => match n with | 0 => 0 | 3 => 3 | 4 => 4 | 9 => 9 | 20 => 20 | 22 => 26 | 25 => 5 | n => n, fun n => n⟩
theorem growLay : Lays8.n4 Try.prog growRen where
  mixed := by kernel_rfl
  f4 := ⟨"slices.Grow[[]byte,byte]", by decide, by kernel_rfl⟩
  t0 := by kernel_rfl
  a0 := fun w => Try.isAgg0 w
  z0 := fun w => Try.sizeOf0 w
  v0 := fun w => Try.zeroValue0 w
  t3 := by kernel_rfl
  a3 := fun w => Try.isAgg3 w
  z3 := fun w => Try.sizeOf3 w
  v3 := fun w => Try.zeroValue3 w
  t4 := by kernel_rfl
  a4 := fun w => Try.isAgg4 w
  z4 := fun w => Try.sizeOf4 w
  v4 := fun w => Try.zeroValue4 w
  t9 := by kernel_rfl
  a9 := fun w => Try.isAgg9 w
  z9 := fun w => Try.sizeOf9 w
  v9 := fun w => Try.zeroValue9 w
  t20 := by kernel_rfl
  a20 := fun w => Try.isAgg20 w
  z20 := fun w => Try.sizeOf20 w
  v20 := fun w => Try.zeroValue20 w
  t22 := by kernel_rfl
  a22 := fun w => Try.isAgg26 w
  z22 := fun w => Try.sizeOf26 w
  v22 := fun w => Try.zeroValue26 w
theorem under_ret {s r : Slot} (h : Slot.under s r) : r = .ret → s = .ret := by
  induction h with
  | refl s => exact id
  | sub s r i _ ih => intro e; have := ih e; cases this
def eGrow : ExtF where
  pre := fun vs _ => match vs with | [.val (.slice none 0 0), .val (.int .i64 n)] => decide (0 ≤ n) && decide (n ≤ 70368744177664) | _ => false
  ans := fun vs outs => match vs, outs with
    | [.val (.slice none 0 0), .val (.int .i64 n)], [] => some (.uni [.int .u8] [], [])
    | _, _ => none
theorem con_grow : ∀ vs outs r, eGrow.pre vs outs = true → eGrow.ans vs outs = some r → Contract Try.prog 167 vs outs r := by
  intro vs outs r hp h
  unfold eGrow at h hp
  simp only at h hp
  split at h
  case h_2 => cases h
  rename_i n
  cases h
  simp only [Bool.and_eq_true, decide_eq_true_eq] at hp
  obtain ⟨k, rfl⟩ : ∃ k : Nat, n = (k : Int) := ⟨n.toNat, by omega⟩
  intro g w cargs hH
  obtain ⟨c1, a1, a2⟩ := hH.args 0 _ rfl
  obtain ⟨c2, b1, b2⟩ := hH.args 1 _ rfl
  have e1 := val_inv a2
  have e2 := val_inv b2
  subst e1; subst e2
  have hs := hH.size
  have hc : cargs = #[.slice none 0 0, .int .i64 (k : Int)] := by
    apply Array.ext
    · simpa using hs
    · intro i h1 h2
      match i with
      | 0 => rw [Array.getElem?_eq_getElem h1] at a1; simpa using a1
      | 1 => rw [Array.getElem?_eq_getElem h1] at b1; simpa using b1
      | _ + 2 => simp at hs; omega
  subst hc
  by_cases hk : k = 0
  · subst hk
    refine (Any8.slices_Grow_room growLay none 0 0 0 w (by omega) (by omega) (by omega) (by omega)).mono fun e w' ⟨he, hw⟩ => ?_
    subst hw
    exact ⟨_, g, he, .uni _ _ _ _ (.inl ⟨rfl, rfl⟩), trivial, rfl, fun i cs hi => by simp at hi, Evol.refl g w', hH.fresh, hH.nones⟩
  · refine (Any8.slices_Grow_grow growLay Try.t5 (.int .u8 0) (by kernel_rfl) (by kernel_rfl) (by decide +kernel) none 0 0 k [] w (by omega) (by omega) ?_ (by omega) (by simp) (fun _ => rfl) (fun a ha => by cases ha)).mono fun e w' ⟨he, hw⟩ => ?_
    · have : Try.t5.bytes = 1 := by kernel_rfl
      rw [this]; omega
    · subst hw
      have hge := grownCap_ge w (0 + k) 0 (growRen.t 25)
      have hle := grownCap_le_maxLen w (0 + k) 0 (growRen.t 25) (by simp only [maxLen]; omega)
      generalize hcap : grownCap w (0 + k) 0 (growRen.t 25) = cap at he hge hle ⊢
      have hst : ∀ b q c, g.stable b q → w.cell? (pl b q) = some c → (g.set w.heap.size (.arr .ret 0)).stable b q ∧ (w.drew.alloc (.cells ((#[] : Array Value) ++ Builtin.zeroCells (Value.int .u8 0).cells (0 + k - 0) ++ Builtin.zeroCells (Value.int .u8 0).cells (cap - (0 + k))) (growRen.t 25))).cell? (pl b q) = some c := by
        intro b q c hs hc
        have hb : b ≠ w.heap.size := fun e => by subst e; have := cell_lt hc; omega
        exact ⟨by unfold Gh.stable Gh.set; simp only [hb, if_false]; exact hs, cell_push w.drew _ hc⟩
      refine ⟨_, g.set w.heap.size (.arr .ret 0), he, .uni _ _ _ _ (.inr ⟨w.heap.size, cap, _, (_, (0, 0)), rfl, by simp, hle, ?_, heap_push_new w.drew _, ⟨?_, unfz_none _⟩, fun i j ct hi => by simp at hi⟩), trivial, rfl, fun i cs hi => by simp at hi, ?_, ?_, ?_⟩
      · simp [Gh.set]
      · simp [size_zeroCells, Value.cells]; omega
      · refine ⟨rfl, rfl, rfl, by simp only [World.alloc, Array.size_push]; exact Nat.le_succ _, fun b hb ho => ?_, fun b l ho => ?_, fun b s l ho => ?_, fun b k ho => ?_, fun i b hb => hb⟩
        · exact ⟨heap_push_old w.drew _ hb, by simp only [Gh.set]; rw [if_neg (by omega)]; exact ho⟩
        · have hb : b < w.heap.size := Nat.lt_of_not_le fun hle' => by rw [hH.fresh b hle'] at ho; cases ho
          exact ⟨heap_push_old w.drew _ hb, by simp only [Gh.set]; rw [if_neg (by omega)]; exact ho⟩
        · have hb : b < w.heap.size := Nat.lt_of_not_le fun hle' => by rw [hH.fresh b hle'] at ho; cases ho
          exact ⟨fun o c _ hc => cell_push w.drew _ hc, .inr (.inr ⟨s, l, by simp only [Gh.set]; rw [if_neg (by omega)]; exact ho, Nat.le_refl _⟩)⟩
        · have hb : b < w.heap.size := Nat.lt_of_not_le fun hle' => by rw [hH.fresh b hle'] at ho; cases ho
          simp only [Gh.set]; rw [if_neg (by omega)]; exact ho
      · intro b hb
        have hb : w.drew.heap.size + 1 ≤ b := by simpa only [World.alloc, Array.size_push] using hb
        have hb : w.heap.size + 1 ≤ b := hb
        simp only [Gh.set]
        rw [if_neg (by omega)]
        exact hH.fresh b (by omega)
      · intro b s l hu ho
        simp only [Gh.set] at ho
        split at ho
        · cases ho; have := under_ret hu rfl; cases this
        · exact hH.nones b s l hu ho
end Go.Proofs.Ytkcopbnaleiocaa.Ev
