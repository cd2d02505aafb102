/- Rows that may be handed: what they are; being the same is being equal. -/
import Derived.Test.YtkcopbnaleiocaaErD
import Derived.Test.YtkcopbnaleiocaaLsE
import Derived.Test.YtkcopbnaleiocaaArgS
namespace Go.Proofs.Ytkcopbnaleiocaa.Ev
open Go
set_option linter.unusedVariables false
set_option linter.unusedSimpArgs false
/-! ### Good rows -/
theorem u8_wf {n : Int} (h : (Lit.int .u8 n).wf = true) : 0 ≤ n ∧ n < 256 := by
  have h1 : IntKind.u8.min = 0 := rfl
  have h2 : IntKind.u8.max = 255 := rfl
  simp only [Lit.wf, Bool.and_eq_true, decide_eq_true_eq] at h
  omega
theorem good_int {k : IntKind} {d : D} (h : Good (.int k) d) : ∃ n, d = .int n ∧ (Lit.int k n).wf = true := by cases h; exact ⟨_, rfl, by assumption⟩
theorem good_bool {d : D} (h : Good .bool d) : ∃ b, d = .bool b := by cases h; exact ⟨_, rfl⟩
theorem good_str {d : D} (h : Good .str d) : ∃ s, d = .str s := by cases h; exact ⟨_, rfl⟩
theorem good_arr {cs : List CT} {d : D} (h : Good (.arr cs) d) : ∃ xs, d = .arr xs ∧ Good (.arr cs) (.arr xs) := by
  cases h with
  | arr _ xs hl hn h => exact ⟨xs, rfl, .arr _ xs hl hn h⟩
theorem good_row {cs : List CT} {xs : List (List D)} (h : Good (.arr cs) (.arr xs)) {e : List D} (he : e ∈ xs) : e.length = cs.length ∧ ∀ (j : Nat) (c : CT), cs[j]? = some c → Good c (e.getD j default) := by
  cases h with
  | arr _ _ hl hn h => exact ⟨hn e he, fun j c hc => h e he j c hc⟩
theorem good_take {cs : List CT} {xs : List (List D)} (h : Good (.arr cs) (.arr xs)) (k : Nat) : Good (.arr cs) (.arr (xs.take k)) := by
  cases h with
  | arr _ _ hl hn h => exact .arr _ _ (by rw [List.length_take]; omega) (fun e he => hn e (List.mem_of_mem_take he)) (fun e he => h e (List.mem_of_mem_take he))
theorem row1 {e : List D} (h : e.length = 1) : e = [e.getD 0 default] := by
  match e, h with
  | [a], _ => rfl
theorem row2 {e : List D} (h : e.length = 2) : e = [e.getD 0 default, e.getD 1 default] := by
  match e, h with
  | [a, b], _ => rfl
theorem row4 {e : List D} (h : e.length = 4) : e = [e.getD 0 default, e.getD 1 default, e.getD 2 default, e.getD 3 default] := by
  match e, h with
  | [a, b, c, d], _ => rfl
theorem row5 {e : List D} (h : e.length = 5) : e = [e.getD 0 default, e.getD 1 default, e.getD 2 default, e.getD 3 default, e.getD 4 default] := by
  match e, h with
  | [a, b, c, d, f], _ => rfl
theorem row6 {e : List D} (h : e.length = 6) : e = [e.getD 0 default, e.getD 1 default, e.getD 2 default, e.getD 3 default, e.getD 4 default, e.getD 5 default] := by
  match e, h with
  | [a, b, c, d, f, g], _ => rfl
theorem good_sec {S : List (List D)} (h : Good (.arr secC) (.arr S)) {e : List D} (he : e ∈ S) : ∃ s a x z, e = [.str s, .int a, .arr x, .int z] ∧ Good (.arr u8s) (.arr x) := by
  obtain ⟨h1, h2⟩ := good_row h he
  obtain ⟨s, e0⟩ := good_str (h2 0 _ rfl)
  obtain ⟨a, e1, _⟩ := good_int (h2 1 _ rfl)
  obtain ⟨x, e2, hx⟩ := good_arr (h2 2 _ rfl)
  obtain ⟨z, e3, _⟩ := good_int (h2 3 _ rfl)
  exact ⟨s, a, x, z, by rw [row4 h1, e0, e1, e2, e3], hx⟩
theorem good_sym {Y : List (List D)} (h : Good (.arr symC) (.arr Y)) {e : List D} (he : e ∈ Y) : ∃ s b hd w v z, e = [.str s, .int b, .bool hd, .int w, .int v, .int z] ∧ 0 ≤ b ∧ b ≤ 255 := by
  obtain ⟨h1, h2⟩ := good_row h he
  obtain ⟨s, e0⟩ := good_str (h2 0 _ rfl)
  obtain ⟨b, e1, hb⟩ := good_int (h2 1 _ rfl)
  obtain ⟨hd, e2⟩ := good_bool (h2 2 _ rfl)
  obtain ⟨w, e3, _⟩ := good_int (h2 3 _ rfl)
  obtain ⟨v, e4, _⟩ := good_int (h2 4 _ rfl)
  obtain ⟨z, e5, _⟩ := good_int (h2 5 _ rfl)
  have := u8_wf hb
  exact ⟨s, b, hd, w, v, z, by rw [row6 h1, e0, e1, e2, e3, e4, e5], by omega, by omega⟩
theorem good_rel {L : List (List D)} (h : Good (.arr relC) (.arr L)) {e : List D} (he : e ∈ L) : ∃ a b k c d, e = [.int a, .int b, .int k, .int c, .int d] ∧ 0 ≤ k ∧ k ≤ 255 := by
  obtain ⟨h1, h2⟩ := good_row h he
  obtain ⟨a, e0, _⟩ := good_int (h2 0 _ rfl)
  obtain ⟨b, e1, _⟩ := good_int (h2 1 _ rfl)
  obtain ⟨k, e2, hk⟩ := good_int (h2 2 _ rfl)
  obtain ⟨c, e3, _⟩ := good_int (h2 3 _ rfl)
  obtain ⟨d, e4, _⟩ := good_int (h2 4 _ rfl)
  have := u8_wf hk
  exact ⟨a, b, k, c, d, by rw [row5 h1, e0, e1, e2, e3, e4], by omega, by omega⟩
theorem good_grp {G : List (List D)} (h : Good (.arr grpC) (.arr G)) {e : List D} (he : e ∈ G) : ∃ s x, e = [.str s, .arr x] ∧ Good (.arr i64s) (.arr x) := by
  obtain ⟨h1, h2⟩ := good_row h he
  obtain ⟨s, e0⟩ := good_str (h2 0 _ rfl)
  obtain ⟨x, e1, hx⟩ := good_arr (h2 1 _ rfl)
  exact ⟨s, x, by rw [row2 h1, e0, e1], hx⟩
theorem good_i64 {x : List (List D)} (h : Good (.arr i64s) (.arr x)) {e : List D} (he : e ∈ x) : ∃ n, e = [.int n] := by
  obtain ⟨h1, h2⟩ := good_row h he
  obtain ⟨n, e0, _⟩ := good_int (h2 0 _ rfl)
  exact ⟨n, by rw [row1 h1, e0]⟩
theorem good_u8 {x : List (List D)} (h : Good (.arr u8s) (.arr x)) {e : List D} (he : e ∈ x) : ∃ n, e = [.int n] ∧ 0 ≤ n ∧ n < 256 := by
  obtain ⟨h1, h2⟩ := good_row h he
  obtain ⟨n, e0, hn⟩ := good_int (h2 0 _ rfl)
  have := u8_wf hn
  exact ⟨n, by rw [row1 h1, e0], by omega, by omega⟩
/-! ### Shapes of rows -/
def U8s (x : List (List D)) : Prop := ∀ e ∈ x, ∃ n, e = [D.int n] ∧ 0 ≤ n ∧ n < 256
def I64s (x : List (List D)) : Prop := ∀ e ∈ x, ∃ n, e = [D.int n]
structure SObj (S Y L G : List (List D)) : Prop where
  s : ∀ e ∈ S, ∃ s a x z, e = [D.str s, .int a, .arr x, .int z] ∧ U8s x
  y : ∀ e ∈ Y, ∃ s b hd w v z, e = [D.str s, .int b, .bool hd, .int w, .int v, .int z] ∧ 0 ≤ b ∧ b ≤ 255
  l : ∀ e ∈ L, ∃ a b k c d, e = [D.int a, .int b, .int k, .int c, .int d] ∧ 0 ≤ k ∧ k ≤ 255
  g : ∀ e ∈ G, ∃ s x, e = [D.str s, .arr x] ∧ I64s x
/-- An object that a law is handed. -/
structure GObj (S Y L G : List (List D)) : Prop where
  s : Good (.arr secC) (.arr S)
  y : Good (.arr symC) (.arr Y)
  l : Good (.arr relC) (.arr L)
  g : Good (.arr grpC) (.arr G)
theorem GObj.shp {S Y L G : List (List D)} (h : GObj S Y L G) : SObj S Y L G :=
  ⟨fun e he => by obtain ⟨s, a, x, z, rfl, hx⟩ := good_sec h.s he; exact ⟨s, a, x, z, rfl, fun e he => good_u8 hx he⟩,
   fun e he => good_sym h.y he, fun e he => good_rel h.l he,
   fun e he => by obtain ⟨s, x, rfl, hx⟩ := good_grp h.g he; exact ⟨s, x, rfl, fun e he => good_i64 hx he⟩⟩
/-! ### Twins -/
theorem map_id_of {f : List D → List D} : ∀ {x : List (List D)}, (∀ e ∈ x, f e = e) → x.map f = x
  | [], _ => rfl
  | a :: t, h => by
    rw [List.map_cons, h a List.mem_cons_self, map_id_of (fun e he => h e (List.mem_cons_of_mem _ he))]
theorem tw_sec {S : List (List D)} (h : Good (.arr secC) (.arr S)) : S.map twSec = S := map_id_of fun e he => by
  obtain ⟨s, a, x, z, rfl, _⟩ := good_sec h he; rfl
theorem tw_grp {G : List (List D)} (h : Good (.arr grpC) (.arr G)) : G.map twGrp = G := map_id_of fun e he => by
  obtain ⟨s, x, rfl, _⟩ := good_grp h he; rfl
/-! ### Being the same -/
theorem ba_eq (a b : ByteArray) : (a == b) = decide (a = b) := by
  cases a with
  | mk x =>
  cases b with
  | mk y =>
  show (x == y) = _
  by_cases h : x = y
  · subst h; simp
  · rw [decide_eq_false (by intro e; exact h (ByteArray.mk.inj e)), beq_eq_false_iff_ne]; exact h
theorem bytes_inj : ∀ {x y : List (List D)}, U8s x → U8s y → rowBytes x = rowBytes y → x = y := by
  have key : ∀ x y : List (List D), (∀ e ∈ x, ∃ n, e = [.int n] ∧ 0 ≤ n ∧ n < 256) → (∀ e ∈ y, ∃ n, e = [.int n] ∧ 0 ≤ n ∧ n < 256) → (x.map fun e => UInt8.ofNat (e.getD 0 default).toInt.toNat) = (y.map fun e => UInt8.ofNat (e.getD 0 default).toInt.toNat) → x = y := by
    intro x
    induction x with
    | nil => intro y _ _ h; cases y with
      | nil => rfl
      | cons b t => simp at h
    | cons a s ih =>
      intro y hx hy h
      cases y with
      | nil => simp at h
      | cons b t =>
        simp only [List.map_cons, List.cons.injEq] at h
        obtain ⟨n, rfl, n0, n1⟩ := hx a List.mem_cons_self
        obtain ⟨m, rfl, m0, m1⟩ := hy b List.mem_cons_self
        have e := congrArg UInt8.toNat h.1
        simp only [List.getD_cons_zero, D.toInt, UInt8.toNat_ofNat'] at e
        rw [Nat.mod_eq_of_lt (by omega), Nat.mod_eq_of_lt (by omega)] at e
        have : n = m := by omega
        subst this
        rw [ih t (fun e he => hx e (List.mem_cons_of_mem _ he)) (fun e he => hy e (List.mem_cons_of_mem _ he)) h.2]
  intro x y hx hy h
  refine key x y hx hy ?_
  have := congrArg (fun b : ByteArray => b.data.toList) h
  simpa [rowBytes] using this
theorem eqAll_eq {p : List D → List D → Bool} : ∀ {x y : List (List D)}, (∀ a ∈ x, ∀ b ∈ y, p a b = true → a = b) → eqAll p x y = true → x = y
  | [], [], _, _ => rfl
  | [], _ :: _, _, h => by cases h
  | _ :: _, [], _, h => by cases h
  | a :: s, b :: t, hp, h => by
    rw [eqAll, Bool.and_eq_true] at h
    rw [hp a List.mem_cons_self b List.mem_cons_self h.1, eqAll_eq (fun a ha b hb => hp a (List.mem_cons_of_mem _ ha) b (List.mem_cons_of_mem _ hb)) h.2]
theorem eqAll_refl {p : List D → List D → Bool} : ∀ {x : List (List D)}, (∀ a ∈ x, p a a = true) → eqAll p x x = true
  | [], _ => rfl
  | a :: s, h => by
    rw [eqAll, h a List.mem_cons_self, eqAll_refl (fun a ha => h a (List.mem_cons_of_mem _ ha))]; rfl
theorem sec_eq {S S' : List (List D)} (h : ∀ e ∈ S, ∃ s a x z, e = [D.str s, .int a, .arr x, .int z] ∧ U8s x) (h' : ∀ e ∈ S', ∃ s a x z, e = [D.str s, .int a, .arr x, .int z] ∧ U8s x) : eqAll sameSec S S' = true ↔ S = S' := by
  constructor
  case mpr =>
    rintro rfl
    exact eqAll_refl fun a _ => by simp [sameSec]
  case mp =>
    refine fun hq => eqAll_eq (fun a ha b hb hp => ?_) hq
    obtain ⟨s, n, x, z, rfl, gx⟩ := h _ ha
    obtain ⟨s', n', x', z', rfl, gx'⟩ := h' _ hb
    simp only [sameSec, Bool.and_eq_true, bytes_eq, decide_eq_true_eq, beq_iff_eq] at hp
    obtain ⟨p1, p2, p3, p4⟩ := hp
    simp only [rS, rI, rA, List.getD_cons_zero, List.getD_cons_succ, D.toStr, D.toInt, D.toArr] at p1 p2 p3 p4
    rw [p1, p2, bytes_inj gx gx' p3, p4]
theorem sym_eq {S S' : List (List D)} (h : ∀ e ∈ S, ∃ s b hd w v z, e = [D.str s, .int b, .bool hd, .int w, .int v, .int z] ∧ 0 ≤ b ∧ b ≤ 255) (h' : ∀ e ∈ S', ∃ s b hd w v z, e = [D.str s, .int b, .bool hd, .int w, .int v, .int z] ∧ 0 ≤ b ∧ b ≤ 255) : eqAll sameSym S S' = true ↔ S = S' := by
  constructor
  case mpr =>
    rintro rfl
    exact eqAll_refl fun a _ => by simp [sameSym, ba_eq]
  case mp =>
    refine fun hq => eqAll_eq (fun a ha b hb hp => ?_) hq
    obtain ⟨s, n, x, z, v, u, rfl, _⟩ := h _ ha
    obtain ⟨s', n', x', z', v', u', rfl, _⟩ := h' _ hb
    simp only [sameSym, Bool.and_eq_true, ba_eq, decide_eq_true_eq, beq_iff_eq] at hp
    obtain ⟨p1, p2, p3, p4, p5, p6, _⟩ := hp
    simp only [rS, rI, rB, List.getD_cons_zero, List.getD_cons_succ, D.toStr, D.toInt, D.toBool] at p1 p2 p3 p4 p5 p6
    rw [p1, p2, p3, p4, p5, p6]
theorem rel_eq {S S' : List (List D)} (h : ∀ e ∈ S, ∃ a b k c d, e = [D.int a, .int b, .int k, .int c, .int d] ∧ 0 ≤ k ∧ k ≤ 255) (h' : ∀ e ∈ S', ∃ a b k c d, e = [D.int a, .int b, .int k, .int c, .int d] ∧ 0 ≤ k ∧ k ≤ 255) : eqAll sameRel S S' = true ↔ S = S' := by
  constructor
  case mpr =>
    rintro rfl
    exact eqAll_refl fun a _ => by simp [sameRel]
  case mp =>
    refine fun hq => eqAll_eq (fun a ha b hb hp => ?_) hq
    obtain ⟨s, n, x, z, v, rfl, _⟩ := h _ ha
    obtain ⟨s', n', x', z', v', rfl, _⟩ := h' _ hb
    simp only [sameRel, Bool.and_eq_true, beq_iff_eq] at hp
    obtain ⟨p1, p2, p3, p4, p5, _⟩ := hp
    simp only [rI, List.getD_cons_zero, List.getD_cons_succ, D.toInt] at p1 p2 p3 p4 p5
    rw [p1, p2, p3, p4, p5]
theorem int_eq {x y : List (List D)} (h : I64s x) (h' : I64s y) (e : eqAll sameInt x y = true) : x = y :=
  eqAll_eq (fun a ha b hb hp => by
    obtain ⟨n, rfl⟩ := h _ ha
    obtain ⟨m, rfl⟩ := h' _ hb
    simp only [sameInt, beq_iff_eq, rI, List.getD_cons_zero, D.toInt] at hp
    rw [hp]) e
theorem grp_eq {S S' : List (List D)} (h : ∀ e ∈ S, ∃ s x, e = [D.str s, .arr x] ∧ I64s x) (h' : ∀ e ∈ S', ∃ s x, e = [D.str s, .arr x] ∧ I64s x) : eqAll sameGrp S S' = true ↔ S = S' := by
  constructor
  case mpr =>
    rintro rfl
    exact eqAll_refl fun a _ => by
      rw [sameGrp, eqAll_refl (fun b _ => by simp [sameInt])]; simp
  case mp =>
    refine fun hq => eqAll_eq (fun a ha b hb hp => ?_) hq
    obtain ⟨s, x, rfl, gx⟩ := h _ ha
    obtain ⟨s', x', rfl, gx'⟩ := h' _ hb
    simp only [sameGrp, Bool.and_eq_true, bytes_eq, decide_eq_true_eq] at hp
    obtain ⟨p1, p2⟩ := hp
    simp only [rS, rA, List.getD_cons_zero, List.getD_cons_succ, D.toStr, D.toArr] at p1 p2
    rw [p1, int_eq gx gx' p2]
theorem same_eq {S Y L G S' Y' L' G' : List (List D)} (h : SObj S Y L G) (h' : SObj S' Y' L' G') : sameO S Y L G S' Y' L' G' = true ↔ S = S' ∧ Y = Y' ∧ L = L' ∧ G = G' := by
  rw [sameO, Bool.and_eq_true, Bool.and_eq_true, Bool.and_eq_true, sec_eq h.s h'.s, sym_eq h.y h'.y, rel_eq h.l h'.l, grp_eq h.g h'.g, and_assoc, and_assoc]
/-! ### Objects that are not great -/
theorem grS_ge : ∀ (t : List (List D)) (n : Int), n ≤ grS t n
  | [], n => Int.le_refl _
  | e :: t, n => by
    have m1 := min5_in ((rA e 2).length : Nat) (by omega)
    have m2 := min5_in ((rS e 0).size : Nat) (by omega)
    have := grS_ge t (n + min5 ((rA e 2).length : Nat) + min5 ((rS e 0).size : Nat))
    rw [grS]; omega
theorem grS_mem : ∀ (t : List (List D)) (n : Int), ∀ e ∈ t, n + min5 ((rA e 2).length : Nat) ≤ grS t n
  | x :: t, n, e, he => by
    have m1 := min5_in ((rA x 2).length : Nat) (by omega)
    have m2 := min5_in ((rS x 0).size : Nat) (by omega)
    rw [grS]
    rcases List.mem_cons.1 he with rfl | he
    · have := grS_ge t (n + min5 ((rA e 2).length : Nat) + min5 ((rS e 0).size : Nat))
      omega
    · have := grS_mem t (n + min5 ((rA x 2).length : Nat) + min5 ((rS x 0).size : Nat)) e he
      omega
theorem grY_ge : ∀ (t : List (List D)) (n : Int), n ≤ grY t n
  | [], n => Int.le_refl _
  | e :: t, n => by
    have m2 := min5_in ((rS e 0).size : Nat) (by omega)
    have := grY_ge t (n + min5 ((rS e 0).size : Nat))
    rw [grY]; omega
theorem grG_ge : ∀ (t : List (List D)) (n : Int), n ≤ grG t n
  | [], n => Int.le_refl _
  | e :: t, n => by
    have m1 := min5_in ((rA e 1).length : Nat) (by omega)
    have m2 := min5_in ((rS e 0).size : Nat) (by omega)
    have := grG_ge t (n + min5 ((rS e 0).size : Nat) + min5 ((rA e 1).length : Nat))
    rw [grG]; omega
theorem grG_mem : ∀ (t : List (List D)) (n : Int), ∀ e ∈ t, n + min5 ((rA e 1).length : Nat) ≤ grG t n
  | x :: t, n, e, he => by
    have m1 := min5_in ((rA x 1).length : Nat) (by omega)
    have m2 := min5_in ((rS x 0).size : Nat) (by omega)
    rw [grG]
    rcases List.mem_cons.1 he with rfl | he
    · have := grG_ge t (n + min5 ((rS e 0).size : Nat) + min5 ((rA e 1).length : Nat))
      omega
    · have := grG_mem t (n + min5 ((rS x 0).size : Nat) + min5 ((rA x 1).length : Nat)) e he
      omega
theorem min5_le {n m : Int} (h : min5 n ≤ m) (hm : m < 100000) : n ≤ m := by
  unfold min5 at h; split at h <;> omega
structure Small (S Y L G : List (List D)) : Prop where
  s : S.length ≤ 30
  y : Y.length ≤ 100
  l : L.length ≤ 300
  g : G.length ≤ 30
  sd : lensOk 2 1048576 S = true
  gs : lensOk 1 1048576 G = true
theorem small_of {S Y L G : List (List D)} (h : greatB S Y L G = false) : Small S Y L G := by
  simp only [greatB, Bool.or_eq_false_iff, decide_eq_false_iff_not] at h
  obtain ⟨⟨⟨⟨h0, h1⟩, h2⟩, h3⟩, h4⟩ := h
  rw [List.take_of_length_le (by omega), List.take_of_length_le (by omega), List.take_of_length_le (by omega)] at h0
  have a1 := grG_ge G (grY Y (grS S 0))
  have a2 := grY_ge Y (grS S 0)
  have a3 := grS_ge S 0
  refine ⟨by omega, by omega, by omega, by omega, List.all_eq_true.2 fun e he => decT ?_, List.all_eq_true.2 fun e he => decT ?_⟩
  · have := grS_mem S 0 e he
    have := min5_le (n := ((rA e 2).length : Nat)) (m := 80000) (by omega) (by omega)
    omega
  · have := grG_mem G (grY Y (grS S 0)) e he
    have := min5_le (n := ((rA e 1).length : Nat)) (m := 80000) (by omega) (by omega)
    omega
theorem rels_ok {L : List (List D)} (h : Good (.arr relC) (.arr L)) : relsOk L = true := List.all_eq_true.2 fun e he => by
  obtain ⟨a, b, k, c, d, rfl, h1, h2⟩ := good_rel h he
  exact andT (decT h1) (decT h2)
theorem pos_ok {Y : List (List D)} (h : Good (.arr symC) (.arr Y)) : posOk 1 Y = true := List.all_eq_true.2 fun e he => by
  obtain ⟨s, b, hd, w, v, z, rfl, h1, h2⟩ := good_sym h he
  exact decT h1
theorem chk_pre {S Y L G : List (List D)} (h : GObj S Y L G) (hs : Small S Y L G) : (decide (S.length ≤ 1048576) && decide (Y.length ≤ 1048576) && relsOk L && decide (G.length ≤ 1048576) && lensOk 1 1048576 G) = true := by
  have := hs.s; have := hs.y; have := hs.g
  exact andT (andT (andT (andT (decT (by omega)) (decT (by omega))) (rels_ok h.l)) (decT (by omega))) hs.gs
theorem same_pre {S Y L G : List (List D)} (hs : Small S Y L G) : (decide (S.length ≤ 1048576) && decide (Y.length ≤ 1048576) && decide (L.length ≤ 1048576) && (decide (G.length ≤ 1048576) && lensOk 1 1048576 G)) = true := by
  have := hs.s; have := hs.y; have := hs.g; have := hs.l
  exact andT (andT (andT (decT (by omega)) (decT (by omega))) (decT (by omega))) (andT (decT (by omega)) hs.gs)
end Go.Proofs.Ytkcopbnaleiocaa.Ev
