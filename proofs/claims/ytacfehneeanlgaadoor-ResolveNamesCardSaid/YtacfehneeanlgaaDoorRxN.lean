/- ResolveNames: walked. -/
import Derived.Test.YtacfehneeanlgaaDoorRxA
namespace Go.Proofs.YtacfehneeanlgaaDoor.Ev
open Go Go.RowKit Go.Shelf Go.Maps
set_option linter.unusedVariables false
set_option linter.unusedSimpArgs false
abbrev lB : List (List D) := kr 2 [1, 2] [-2, -1] [4, 0] [8, 0]
abbrev lC : List (List D) := kr 2 [1, 1] [-1, -1] [] []
abbrev lD : List (List D) := kr 1 [1] [0] [] []
abbrev lE : List (List D) := kr 1 [2] [0] [] []
abbrev lF : List (List D) := [[.int 0, .int 0, .arr [], .arr [], .arr [], .arr [], .arr [[.bool true]]]]
theorem std_of {L : List (List D)} {o s : Int} (h1 : chkL L = true) (h2 : doubleB L = false) (h3 : (dedup (allN L)).filter (lackB L) = []) (h4 : decide (0 < L.length) = true) (h5 : decide (0 < (rA (L.getD 0 []) 3).length) = true) (h6 : bndOf L 0 0 = (o, s)) : gStd [.arr keptC L] = some (.tup [.agg [.val (.int .i64 o), .val (.int .i64 s)], .val (.bool true)]) := by
  show (if bindE L = 0 ∧ 0 < L.length ∧ 0 < (rA (L.getD 0 []) 3).length then _ else _) = _
  rw [if_pos ⟨bindE_ok h1 h2 h3, of_decide_eq_true h4, of_decide_eq_true h5⟩, h6]
theorem std_lB : gStd [.arr keptC lB] = some (.tup [.agg [.val (.int .i64 1), .val (.int .i64 0)], .val (.bool true)]) := std_of (by kernel_rfl) (by kernel_rfl) (by kernel_rfl) (by kernel_rfl) (by kernel_rfl) (by kernel_rfl)
theorem std_lE : gStd [.arr keptC lE] = some (.tup [.agg [.val (.int .i64 (-1)), .val (.int .i64 (-1))], .val (.bool true)]) := std_of (by kernel_rfl) (by kernel_rfl) (by kernel_rfl) (by kernel_rfl) (by kernel_rfl) (by kernel_rfl)
theorem pre_lB : pKck [.arr keptC lB] = true := by kernel_rfl
theorem pre_lE : pKck [.arr keptC lE] = true := by kernel_rfl
theorem bindE_lC : bindE lC = 230 := by
  rw [bindE, if_neg (by rw [show chkL lC = true by kernel_rfl]; simp), if_pos (by kernel_rfl)]
theorem lackN_lD : lackN lD = [[102]] := by
  rw [lackN, show (dedup (allN lD)).filter (lackB lD) = [[102]] by kernel_rfl, List.mergeSort_singleton]
theorem bindE_lD : bindE lD = 231 := by
  rw [bindE, if_neg (by rw [show chkL lD = true by kernel_rfl]; simp), if_neg (by rw [show doubleB lD = false by kernel_rfl]; simp), if_neg (by rw [lackN_lD]; simp)]
theorem bindE_lF : bindE lF = 8 := by
  rw [bindE, if_pos (by kernel_rfl)]
/-- Bind's number alone. -/
theorem bindN_calls (w : World) (hG : GlobW w) (p : Option Addr) (cap : Nat) (L : List (List D)) (hL : DRel allS w (.arr keptC) (.arr L) (.slice p L.length cap)) (hp : pKck [.arr keptC L] = true) (n : Int) (hn : bindE L = n) :
    Calls Tryd.prog 10 #[.slice p L.length cap] w fun e W' => ∃ v, e = .returned (.tuple #[v, .int .i64 n]) ∧ Go.RowKit.Below w.heap.size w W' := by
  have hp' : (decide (L.length ≤ 1048576) && (decide (64 < L.length) || L.all okArg)) = true := hp
  simp only [Bool.and_eq_true, Bool.or_eq_true, decide_eq_true_eq] at hp'
  subst hn
  exact (bind_calls w hG p cap L hL hp'.1 hp'.2).mono fun e W' ⟨v, he, _, hB⟩ => ⟨v, he, hB⟩
/-- Lacks of one name. -/
theorem lackD_calls (w : World) (hG : GlobW w) (p : Option Addr) (cap : Nat) (hL : DRel allS w (.arr keptC) (.arr lD) (.slice p lD.length cap)) :
    Calls Tryd.prog 18 #[.slice p lD.length cap] w fun e W' => ∃ g c, e = .returned (.tuple #[.slice (some ⟨g, 0, none⟩) 1 c, .int .i64 0]) ∧ W'.cell? ⟨g, 0, none⟩ = some (.string ⟨#[102]⟩) ∧ Go.RowKit.Below w.heap.size w W' := by
  refine (lck_calls w hG p cap lD hL (of_decide_eq_true (by kernel_rfl)) (.inr (by kernel_rfl))).mono fun e W' ⟨v, he, hv, hB⟩ => ?_
  have hc : chkL lD = true := by kernel_rfl
  rw [if_pos hc] at he
  rcases hv with ⟨_, h2⟩ | ⟨h1, _⟩
  · rw [lackN_lD] at h2
    rcases h2.2 with ⟨_, h0⟩ | ⟨g, c, cur, rfl, _⟩
    · simp at h0
    · exact ⟨g, c, he, (h2.cellAt 0 (by decide)).trans rfl, hB⟩
  · rw [hc] at h1; cases h1
theorem drel_lF {W : World} {b c : Nat} (h0 : W.cell? ⟨b, 0, none⟩ = some (.bool true)) (k : ∀ j u, (#[.int .i64 0, .int .i64 0, .slice none 0 0, .slice none 0 0, .slice none 0 0, .slice none 0 0, .slice (some ⟨b, 0, none⟩) 1 1] : Array Value)[j]? = some u → W.cell? ⟨c, j, none⟩ = some u) : DRel allS W (.arr keptC) (.arr lF) (.slice (some ⟨c, 0, none⟩) lF.length 1) := by
  refine .arr keptC (.arr lF) c 0 1 (fun _ j => (#[.int .i64 0, .int .i64 0, .slice none 0 0, .slice none 0 0, .slice none 0 0, .slice none 0 0, .slice (some ⟨b, 0, none⟩) 1 1] : Array Value).getD j undef) (by simp [D.toArr]) (by unfold maxLen; omega) (fun i j hi hj => ⟨trivial, ?_⟩) (fun i j ct hi hj => ?_)
  · simp [D.toArr] at hi
    subst hi
    match j, hj with
    | 0, _ => exact (by simpa using k 0 _ rfl)
    | 1, _ => exact (by simpa using k 1 _ rfl)
    | 2, _ => exact (by simpa using k 2 _ rfl)
    | 3, _ => exact (by simpa using k 3 _ rfl)
    | 4, _ => exact (by simpa using k 4 _ rfl)
    | 5, _ => exact (by simpa using k 5 _ rfl)
    | 6, _ => exact (by simpa using k 6 _ rfl)
    | j + 7, hj => simp at hj; omega
  · simp [D.toArr] at hi
    subst hi
    match j, hj with
    | 0, hj => simp at hj; subst hj; exact .int .i64 (.int 0)
    | 1, hj => simp at hj; subst hj; exact .int .i64 (.int 0)
    | 2, hj => simp at hj; subst hj; exact .nil _ _ _ rfl
    | 3, hj => simp at hj; subst hj; exact .nil _ _ _ rfl
    | 4, hj => simp at hj; subst hj; exact .nil _ _ _ rfl
    | 5, hj => simp at hj; subst hj; exact .nil _ _ _ rfl
    | 6, hj =>
      simp at hj; subst hj
      refine .arr [.bool] (.arr [[.bool true]]) b 0 1 (fun _ _ => .bool true) (by simp [D.toArr]) (by unfold maxLen; omega) (fun i j hi hj => ⟨trivial, ?_⟩) (fun i j ct hi hj => ?_)
      · simp [D.toArr] at hi
        have : j = 0 := by simpa using hj
        subst hi; subst this
        simpa using h0
      · simp [D.toArr] at hi
        subst hi
        match j, hj with
        | 0, hj => simp at hj; subst hj; exact .bool (.bool true)
        | j + 1, hj => simp at hj
    | j + 7, hj => simp at hj
theorem syms_lB (W : World) : SymsAre (W.alloc (.cells #[.string ⟨#[]⟩, .int .u8 1, .bool false, .int .i64 (-2), .int .i64 4, .int .i64 8, .string ⟨#[]⟩, .int .u8 2, .bool false, .int .i64 (-1), .int .i64 0, .int .i64 0] 40)) W.heap.size 2 (lst [1, 2]) (lst [-2, -1]) (lst [4, 0]) (lst [8, 0]) (fun _ => false) :=
  syms_new _ _ _ _ _ _ _ _ _ fun j hj => by match j, hj with | 0, _ | 1, _ => exact ⟨_, rfl, rfl, rfl, rfl, rfl, rfl⟩
theorem syms_lC (W : World) : SymsAre (W.alloc (.cells #[.string ⟨#[]⟩, .int .u8 1, .bool false, .int .i64 (-1), .int .i64 0, .int .i64 0, .string ⟨#[]⟩, .int .u8 1, .bool false, .int .i64 (-1), .int .i64 0, .int .i64 0] 40)) W.heap.size 2 (lst [1, 1]) (lst [-1, -1]) (lst []) (lst []) (fun _ => false) :=
  syms_new _ _ _ _ _ _ _ _ _ fun j hj => by match j, hj with | 0, _ | 1, _ => exact ⟨_, rfl, rfl, rfl, rfl, rfl, rfl⟩
theorem syms_lD (W : World) : SymsAre (W.alloc (.cells #[.string ⟨#[]⟩, .int .u8 1, .bool false, .int .i64 0, .int .i64 0, .int .i64 0] 40)) W.heap.size 1 (lst [1]) (lst [0]) (lst []) (lst []) (fun _ => false) :=
  syms_new _ _ _ _ _ _ _ _ _ fun j hj => by match j, hj with | 0, _ => exact ⟨_, rfl, rfl, rfl, rfl, rfl, rfl⟩
theorem syms_lE (W : World) : SymsAre (W.alloc (.cells #[.string ⟨#[]⟩, .int .u8 2, .bool false, .int .i64 0, .int .i64 0, .int .i64 0] 40)) W.heap.size 1 (lst [2]) (lst [0]) (lst []) (lst []) (fun _ => false) :=
  syms_new _ _ _ _ _ _ _ _ _ fun j hj => by match j, hj with | 0, _ => exact ⟨_, rfl, rfl, rfl, rfl, rfl, rfl⟩
inductive Tag
  | b | c | d | e | f
def lstOf : Tag → List (List D)
  | .b => lB
  | .c => lC
  | .d => lD
  | .e => lE
  | .f => lF
/-- Cells that stay. -/
def Keeps (W : World) : List (Nat × Nat × Value) → Prop
  | [] => True
  | x :: l => (x.1 < W.heap.size ∧ W.cell? ⟨x.1, x.2.1, none⟩ = some x.2.2) ∧ Keeps W l
theorem Keeps.then {W W' : World} : ∀ {l : List (Nat × Nat × Value)}, Keeps W l → Go.RowKit.Below W.heap.size W W' → Keeps W' l
  | [], _, _ => trivial
  | x :: l, ⟨⟨h1, h2⟩, h3⟩, hB => ⟨⟨Nat.lt_of_lt_of_le h1 hB.size, (hB.cell (p := ⟨x.1, x.2.1, none⟩) h1).trans h2⟩, Keeps.then h3 hB⟩
theorem Keeps.new {W : World} {l : List (Nat × Nat × Value)} (h : Keeps W l) (A : Obj) : Keeps (W.alloc A) l := h.then ((Go.RowKit.Below.refl _ W).alloc (Nat.le_refl _) A)
theorem Keeps.grown {W W' : World} (A : Obj) : ∀ {l : List (Nat × Nat × Value)}, Keeps W l → (W.alloc A).grownBy W' (some W.heap.size) → Keeps W' l
  | [], _, _ => trivial
  | x :: l, ⟨⟨h1, h2⟩, h3⟩, hg => ⟨⟨Nat.lt_of_lt_of_le (by rw [World.size_alloc]; omega) hg.size, hg.cell ((World.cell?_alloc_past _ _ _ h1).trans h2) (by intro e; injection e with e; simp at e; omega)⟩, Keeps.grown A h3 hg⟩
theorem Keeps.bound {W : World} {l : List (Nat × Nat × Value)} (h : Keeps W l) (x y : Int) (ty : TypeId) : Keeps (W.alloc (.cells #[.int .i64 x, .int .i64 y] ty)) ((W.heap.size, 0, .int .i64 x) :: (W.heap.size, 1, .int .i64 y) :: l) :=
  ⟨⟨by simp, World.cell?_alloc_at _ _ _ 0 rfl⟩, ⟨by simp, World.cell?_alloc_at _ _ _ 1 rfl⟩, h.new _⟩
/-- How far the walk is. -/
structure At (n : Nat) (t : Tag) : Prop where
  is : True
structure ArgIs (t : Tag) (W : World) (v : Value) : Prop where
  is : ∃ p cap, v = .slice p (lstOf t).length cap ∧ DRel allS W (.arr keptC) (.arr (lstOf t)) (.slice p (lstOf t).length cap)
theorem argF (W : World) (ty ty' : TypeId) : ArgIs .f ((W.alloc (.cells #[.bool true] ty)).alloc (.cells #[.int .i64 0, .int .i64 0, .slice none 0 0, .slice none 0 0, .slice none 0 0, .slice none 0 0, .slice (some ⟨W.heap.size, 0, none⟩) 1 1] ty')) (.slice (some ⟨W.heap.size + 1, 0, none⟩) 1 1) := by
  refine ⟨some ⟨W.heap.size + 1, 0, none⟩, 1, rfl, drel_lF (b := W.heap.size) ((World.cell?_alloc_past _ _ _ (by simp)).trans (World.cell?_alloc_at _ _ _ 0 rfl)) fun j u hj => ?_⟩
  have e : W.heap.size + 1 = (W.alloc (.cells #[.bool true] ty)).heap.size := by simp
  rw [e, World.cell?_alloc_at _ _ _ j rfl]
  exact hj
theorem kept_lB (W : World) : Calls Tryd.prog 13 #[.slice (some ⟨W.heap.size, 0, none⟩) 2 2] (W.alloc (.cells #[.string ⟨#[]⟩, .int .u8 1, .bool false, .int .i64 (-2), .int .i64 4, .int .i64 8, .string ⟨#[]⟩, .int .u8 2, .bool false, .int .i64 (-1), .int .i64 0, .int .i64 0] 40)) fun e W' => ∃ v, e = .returned v ∧ ArgIs .b W' v ∧ (W.alloc (.cells #[.string ⟨#[]⟩, .int .u8 1, .bool false, .int .i64 (-2), .int .i64 4, .int .i64 8, .string ⟨#[]⟩, .int .u8 2, .bool false, .int .i64 (-1), .int .i64 0, .int .i64 0] 40)).grownBy W' (some W.heap.size) :=
  (kept_calls _ _ 2 (by omega) _ _ _ _ _ (by simp) (syms_lB W)).mono fun e W' ⟨p, cap, he, hd, hg⟩ => ⟨_, he, ⟨p, cap, rfl, hd⟩, hg⟩
theorem kept_lC (W : World) : Calls Tryd.prog 13 #[.slice (some ⟨W.heap.size, 0, none⟩) 2 2] (W.alloc (.cells #[.string ⟨#[]⟩, .int .u8 1, .bool false, .int .i64 (-1), .int .i64 0, .int .i64 0, .string ⟨#[]⟩, .int .u8 1, .bool false, .int .i64 (-1), .int .i64 0, .int .i64 0] 40)) fun e W' => ∃ v, e = .returned v ∧ ArgIs .c W' v ∧ (W.alloc (.cells #[.string ⟨#[]⟩, .int .u8 1, .bool false, .int .i64 (-1), .int .i64 0, .int .i64 0, .string ⟨#[]⟩, .int .u8 1, .bool false, .int .i64 (-1), .int .i64 0, .int .i64 0] 40)).grownBy W' (some W.heap.size) :=
  (kept_calls _ _ 2 (by omega) _ _ _ _ _ (by simp) (syms_lC W)).mono fun e W' ⟨p, cap, he, hd, hg⟩ => ⟨_, he, ⟨p, cap, rfl, hd⟩, hg⟩
theorem kept_lD (W : World) : Calls Tryd.prog 13 #[.slice (some ⟨W.heap.size, 0, none⟩) 1 1] (W.alloc (.cells #[.string ⟨#[]⟩, .int .u8 1, .bool false, .int .i64 0, .int .i64 0, .int .i64 0] 40)) fun e W' => ∃ v, e = .returned v ∧ ArgIs .d W' v ∧ (W.alloc (.cells #[.string ⟨#[]⟩, .int .u8 1, .bool false, .int .i64 0, .int .i64 0, .int .i64 0] 40)).grownBy W' (some W.heap.size) :=
  (kept_calls _ _ 1 (by omega) _ _ _ _ _ (by simp) (syms_lD W)).mono fun e W' ⟨p, cap, he, hd, hg⟩ => ⟨_, he, ⟨p, cap, rfl, hd⟩, hg⟩
theorem kept_lE (W : World) : Calls Tryd.prog 13 #[.slice (some ⟨W.heap.size, 0, none⟩) 1 1] (W.alloc (.cells #[.string ⟨#[]⟩, .int .u8 2, .bool false, .int .i64 0, .int .i64 0, .int .i64 0] 40)) fun e W' => ∃ v, e = .returned v ∧ ArgIs .e W' v ∧ (W.alloc (.cells #[.string ⟨#[]⟩, .int .u8 2, .bool false, .int .i64 0, .int .i64 0, .int .i64 0] 40)).grownBy W' (some W.heap.size) :=
  (kept_calls _ _ 1 (by omega) _ _ _ _ _ (by simp) (syms_lE W)).mono fun e W' ⟨p, cap, he, hd, hg⟩ => ⟨_, he, ⟨p, cap, rfl, hd⟩, hg⟩
theorem stands_lB (w : World) (hG : GlobW w) (v : Value) (h : ArgIs .b w v) : Calls Tryd.prog 12 #[v] w fun e W' => e = .returned (.tuple #[.agg #[.int .i64 1, .int .i64 0], .bool true]) ∧ Go.RowKit.Below w.heap.size w W' := by
  obtain ⟨p, cap, rfl, hd⟩ := h.is
  exact stands_calls w hG p cap lB hd pre_lB 1 0 true std_lB
theorem stands_lE (w : World) (hG : GlobW w) (v : Value) (h : ArgIs .e w v) : Calls Tryd.prog 12 #[v] w fun e W' => e = .returned (.tuple #[.agg #[.int .i64 (-1), .int .i64 (-1)], .bool true]) ∧ Go.RowKit.Below w.heap.size w W' := by
  obtain ⟨p, cap, rfl, hd⟩ := h.is
  exact stands_calls w hG p cap lE hd pre_lE (-1) (-1) true std_lE
theorem bind_lC (w : World) (hG : GlobW w) (v : Value) (h : ArgIs .c w v) : Calls Tryd.prog 10 #[v] w fun e W' => ∃ u, e = .returned (.tuple #[u, .int .i64 230]) ∧ Go.RowKit.Below w.heap.size w W' := by
  obtain ⟨p, cap, rfl, hd⟩ := h.is
  exact bindN_calls w hG p cap lC hd (by kernel_rfl) 230 bindE_lC
theorem bind_lD (w : World) (hG : GlobW w) (v : Value) (h : ArgIs .d w v) : Calls Tryd.prog 10 #[v] w fun e W' => ∃ u, e = .returned (.tuple #[u, .int .i64 231]) ∧ Go.RowKit.Below w.heap.size w W' := by
  obtain ⟨p, cap, rfl, hd⟩ := h.is
  exact bindN_calls w hG p cap lD hd (by kernel_rfl) 231 bindE_lD
theorem bind_lF (w : World) (hG : GlobW w) (v : Value) (h : ArgIs .f w v) : Calls Tryd.prog 10 #[v] w fun e W' => ∃ u, e = .returned (.tuple #[u, .int .i64 8]) ∧ Go.RowKit.Below w.heap.size w W' := by
  obtain ⟨p, cap, rfl, hd⟩ := h.is
  exact bindN_calls w hG p cap lF hd (by kernel_rfl) 8 bindE_lF
theorem lacks_lD (w : World) (hG : GlobW w) (v : Value) (h : ArgIs .d w v) : Calls Tryd.prog 18 #[v] w fun e W' => ∃ g c, e = .returned (.tuple #[.slice (some ⟨g, 0, none⟩) 1 c, .int .i64 0]) ∧ W'.cell? ⟨g, 0, none⟩ = some (.string ⟨#[102]⟩) ∧ Go.RowKit.Below w.heap.size w W' := by
  obtain ⟨p, cap, rfl, hd⟩ := h.is
  exact lackD_calls w hG p cap hd
set_option maxRecDepth 100000 in
set_option maxHeartbeats 4000000 in
theorem names_calls (w : World) (hG : GlobW w) : Calls Tryd.prog 5 #[] w fun e W' => e = .returned (.bool true) ∧ Go.RowKit.Below w.heap.size w W' := by
  have hGn : ∀ W : World, Go.RowKit.Below w.heap.size w W → GlobW W := fun W hB => hG.below hB (fun x hx => (hG x hx).1)
  have hB : Go.RowKit.Below w.heap.size w w := Go.RowKit.Below.refl _ _
  have hs : ∀ W : World, Go.RowKit.Below w.heap.size w W → w.heap.size ≤ W.heap.size := fun W h => h.size
  go_enter Tryd.func5, Tryd.ntmps5
  have hst : At 0 .b := ⟨trivial⟩
  have hk : Keeps w [] := trivial
  go_wp2_with (first
    | (go_at_call 17; refine (lack_calls _).mono ?_; rintro e W1 ⟨rfl, hB1⟩; replace hk := Keeps.then (by first | exact hk | exact hk.new _ | exact (hk.new _).new _) hB1; replace hB := below_then (by first | exact hB | exact below_new hB _ | exact below_new (below_new hB _) _) hB1 (Nat.le_refl _); clear hB1)
    | (go_at_call 15; refine (weak_calls _).mono ?_; rintro e W1 ⟨rfl, hB1⟩; replace hk := Keeps.then (by first | exact hk | exact hk.new _ | exact (hk.new _).new _) hB1; replace hB := below_then (by first | exact hB | exact below_new hB _ | exact below_new (below_new hB _) _) hB1 (Nat.le_refl _); clear hB1)
    | (go_at_call 16; refine (strong_calls _).mono ?_; rintro e W1 ⟨rfl, hB1⟩; replace hk := Keeps.then (by first | exact hk | exact hk.new _ | exact (hk.new _).new _) hB1; replace hB := below_then (by first | exact hB | exact below_new hB _ | exact below_new (below_new hB _) _) hB1 (Nat.le_refl _); clear hB1)
    | (go_at_call 14; refine (common_calls _).mono ?_; rintro e W1 ⟨rfl, hB1⟩; replace hk := Keeps.then (by first | exact hk | exact hk.new _ | exact (hk.new _).new _) hB1; replace hB := below_then (by first | exact hB | exact below_new hB _ | exact below_new (below_new hB _) _) hB1 (Nat.le_refl _); clear hB1)
    | (go_at_call 13; (have _ := (hst : At 0 .b)); refine (kept_lB _).mono ?_; rintro e W1 ⟨v, rfl, hd, hg⟩; replace hst : At 1 .b := ⟨trivial⟩; replace hk := Keeps.grown _ (by first | exact hk | exact hk.new _ | exact (hk.new _).new _) hg; replace hB := below_grown (below_new (by first | exact hB | exact below_new hB _ | exact below_new (below_new hB _) _) _) hg (by first | exact hB.size | exact (below_new hB _).size) (Nat.le_refl _); clear hg)
    | (go_at_call 13; (have _ := (hst : At 0 .c)); refine (kept_lC _).mono ?_; rintro e W1 ⟨v, rfl, hd, hg⟩; replace hst : At 1 .c := ⟨trivial⟩; replace hk := Keeps.grown _ (by first | exact hk | exact hk.new _ | exact (hk.new _).new _) hg; replace hB := below_grown (below_new (by first | exact hB | exact below_new hB _ | exact below_new (below_new hB _) _) _) hg (by first | exact hB.size | exact (below_new hB _).size) (Nat.le_refl _); clear hg)
    | (go_at_call 13; (have _ := (hst : At 0 .d)); refine (kept_lD _).mono ?_; rintro e W1 ⟨v, rfl, hd, hg⟩; replace hst : At 1 .d := ⟨trivial⟩; replace hk := Keeps.grown _ (by first | exact hk | exact hk.new _ | exact (hk.new _).new _) hg; replace hB := below_grown (below_new (by first | exact hB | exact below_new hB _ | exact below_new (below_new hB _) _) _) hg (by first | exact hB.size | exact (below_new hB _).size) (Nat.le_refl _); clear hg)
    | (go_at_call 13; (have _ := (hst : At 0 .e)); refine (kept_lE _).mono ?_; rintro e W1 ⟨v, rfl, hd, hg⟩; replace hst : At 1 .e := ⟨trivial⟩; replace hk := Keeps.grown _ (by first | exact hk | exact hk.new _ | exact (hk.new _).new _) hg; replace hB := below_grown (below_new (by first | exact hB | exact below_new hB _ | exact below_new (below_new hB _) _) _) hg (by first | exact hB.size | exact (below_new hB _).size) (Nat.le_refl _); clear hg)
    | (go_at_call 13; (have _ := (hst : At 0 .f)); refine (kept_lD _).mono ?_; rintro e W1 ⟨v, rfl, hd, hg⟩; replace hst : At 1 .f := ⟨trivial⟩; replace hk := Keeps.grown _ (by first | exact hk | exact hk.new _ | exact (hk.new _).new _) hg; replace hB := below_grown (below_new (by first | exact hB | exact below_new hB _ | exact below_new (below_new hB _) _) _) hg (by first | exact hB.size | exact (below_new hB _).size) (Nat.le_refl _); clear hg)
    | (go_at_call 12; (have _ := (hst : At 1 .b)); refine (stands_lB _ (hGn _ hB) _ hd).mono ?_; rintro e W1 ⟨rfl, hB1⟩; replace hst : At 0 .c := ⟨trivial⟩; replace hk := (hk.then hB1).bound 1 0 43; replace hB := below_then hB hB1 (Nat.le_refl _); clear hB1 hd)
    | (go_at_call 12; (have _ := (hst : At 1 .e)); refine (stands_lE _ (hGn _ hB) _ hd).mono ?_; rintro e W1 ⟨rfl, hB1⟩; replace hst : At 0 .f := ⟨trivial⟩; replace hk := (hk.then hB1).bound (-1) (-1) 43; replace hB := below_then hB hB1 (Nat.le_refl _); clear hB1 hd)
    | (go_at_call 10; (have _ := (hst : At 1 .c)); refine (bind_lC _ (hGn _ hB) _ hd).mono ?_; rintro e W1 ⟨v, rfl, hB1⟩; replace hst : At 0 .d := ⟨trivial⟩; replace hk := hk.then hB1; replace hB := below_then hB hB1 (Nat.le_refl _); clear hB1 hd)
    | (go_at_call 10; (have _ := (hst : At 1 .d)); refine (bind_lD _ (hGn _ hB) _ hd).mono ?_; rintro e W1 ⟨v, rfl, hB1⟩; replace hst : At 0 .e := ⟨trivial⟩; replace hk := hk.then hB1; replace hB := below_then hB hB1 (Nat.le_refl _); clear hB1 hd)
    | (go_at_call 18; (have _ := (hst : At 1 .f)); refine (lacks_lD _ (hGn _ hB) _ hd).mono ?_; rintro e W7 ⟨g, c, rfl, hc7, hB1⟩; replace hst : At 2 .f := ⟨trivial⟩; replace hk : Keeps W7 ((g, 0, .string ⟨#[102]⟩) :: _) := ⟨⟨cell_lt hc7, hc7⟩, hk.then hB1⟩; replace hB := below_then hB hB1 (Nat.le_refl _); clear hB1 hd)
    | (go_at_call 10; (have _ := (hst : At 2 .f)); refine (bind_lF _ (hGn _ (below_new (below_new hB _) _)) _ (argF _ _ _)).mono ?_; rintro e W8 ⟨v, rfl, hB1⟩; replace hst : At 3 .f := ⟨trivial⟩; replace hk := ((hk.new _).new _).then hB1; replace hB := below_then (below_new (below_new hB _) _) hB1 (Nat.le_refl _); clear hB1)
    | (go_at_call 8; refine (alive_calls _ (hGn _ hB)).mono ?_; rintro e W9 ⟨rfl, hB1⟩; replace hk := hk.then hB1; replace hB := below_then hB hB1 (Nat.le_refl _); obtain ⟨⟨-, k1⟩, ⟨-, k2⟩, ⟨-, k3⟩, ⟨-, k4⟩, ⟨-, k5⟩, -⟩ := hk)
    | go_in)
  go_ret
  exact ⟨rfl, hB⟩
end Go.Proofs.YtacfehneeanlgaaDoor.Ev
