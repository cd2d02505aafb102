/- A reader reads its parts: that the function computes what XRpD says. -/
import Derived.Test.YtkcopbnaleiocaaRpD
import Derived.Test.YtkcopbnaleiocaaRpP
namespace Go.Proofs.Ytkcopbnaleiocaa.Ev
open Go
set_option linter.unusedVariables false
set_option linter.unusedSimpArgs false
abbrev RQ (r : Rd) : R → Prop := fun q => Relax q.1 (.tup []) ∧ q.2 = [r.cells]
theorem cutV_len {b : List (List D)} (a n e : Int) : (cutV b a n e).length ≤ b.length := by
  unfold cutV
  split
  · unfold cut; rw [List.length_take, List.length_drop]; omega
  · simp
/-! ### A group -/
theorem runs_rg4 (x : List (List D)) (hx : bytesIn x = true) (hl : x.length ≤ 1048576) (b h s y l g : List (List D)) (hg : g.length ≤ 1073741824) (nm : ByteArray) : ∀ (d : Nat) (a e : Int) (c : List (List D)), 4 ≤ a → a ≤ x.length + 4 → (x.length : Int) ≤ a + 4 * d → (c.length : Int) ≤ a →
    Runs es3 (93, Try.f93, 1) rptk4 (rpts4 x a b h s y l g e nm c) (RQ ⟨b, h, s, y, l, g ++ [[.str nm, .arr (grpR x d a e c).1]], (grpR x d a e c).2⟩) := by
  intro d
  induction d with
  | zero =>
    intro a e c h1 h2 h3 h4
    refine Runs.of (fun q => rptp4 q x a b h s y l g e nm c) ?_
    unfold rptt4
    exact askF (decF (by omega)) (askT (andT (decT (by simp only [List.length_cons, List.length_nil]; omega)) (decT (by simp only [List.length_cons, List.length_nil]; omega))) ⟨.one (.one (.refl _)), rfl⟩)
  | succ d ih =>
    intro a e c h1 h2 h3 h4
    refine Runs.of (fun q => rptp4 q x a b h s y l g e nm c) ?_
    unfold rptt4
    refine ask (fun ha => ?_) (fun ha => ?_)
    · have ha := of_decide_eq_true ha
      have hw : IntKind.wrap .i64 (a + 4) = a + 4 := wrap64 (by omega) (by omega)
      have e0 : grpR x (d + 1) a e c = grpR x d (a + 4) (numE x a 4 e) (c ++ [[.int (getV x a 4)]]) := by rw [grpR, if_pos ha]
      rw [e0, hw]
      refine askT (show (bytesIn x && decide (x.length ≤ 1048576)) = true from andT hx (decT hl)) (askT (andT (decT (by simp only [List.length_cons, List.length_nil]; omega)) (decT (by simp only [List.length_cons, List.length_nil]; omega))) ?_)
      exact ih (a + 4) _ _ (by omega) (by omega) (by omega) (by rw [List.length_append]; simp only [List.length_cons, List.length_nil]; omega)
    · have ha := of_decide_eq_false ha
      have e0 : grpR x (d + 1) a e c = (c, e) := by rw [grpR, if_neg ha]
      rw [e0]
      exact askT (andT (decT (by simp only [List.length_cons, List.length_nil]; omega)) (decT (by simp only [List.length_cons, List.length_nil]; omega))) ⟨.one (.one (.refl _)), rfl⟩
theorem runs_rg1 (x : List (List D)) (hx : bytesIn x = true) (hl : x.length ≤ 1048576) (b h s y l g : List (List D)) (hg : g.length ≤ 1073741824) (nm : ByteArray) (e : Int) :
    Runs es3 (93, Try.f93, 1) rptk1 (rpts1 x 4 b h s y l g e nm) (RQ ⟨b, h, s, y, l, g ++ [[.str nm, .arr (grpR x x.length 4 e []).1]], (grpR x x.length 4 e []).2⟩) := by
  refine Runs.of (fun q => rptp1 q x 4 b h s y l g e nm) ?_
  unfold rptt1
  refine ask (fun ha => ?_) (fun ha => ?_)
  · have ha := of_decide_eq_true ha
    have hw : IntKind.wrap .i64 ((4 : Int) + 4) = 8 := by rw [wrap64 (by omega) (by omega)]; rfl
    obtain ⟨d, hd⟩ : ∃ d, x.length = d + 1 := ⟨x.length - 1, by omega⟩
    have e0 : grpR x x.length 4 e [] = grpR x d 8 (numE x 4 4 e) [[.int (getV x 4 4)]] := by
      rw [hd, grpR, if_pos ha]; rfl
    rw [e0, hw]
    refine askT (show (bytesIn x && decide (x.length ≤ 1048576)) = true from andT hx (decT hl)) ?_
    exact runs_rg4 x hx hl b h s y l g hg nm d 8 _ _ (by omega) (by omega) (by omega) (by simp)
  · have ha := of_decide_eq_false ha
    have e0 : grpR x x.length 4 e [] = ([], e) := by
      cases x.length with
      | zero => rfl
      | succ d => rw [grpR, if_neg ha]
    rw [e0]
    exact askT (andT (decT (by simp only [List.length_cons, List.length_nil]; omega)) (decT (by simp only [List.length_cons, List.length_nil]; omega))) ⟨.one (.one (.refl _)), rfl⟩
/-! ### Relocations -/
theorem c24a (x : List (List D)) : cut x 0 24 = x.take 24 := by simp [cut]
theorem c24b (x : List (List D)) : cut x 24 (x.length : Nat) = x.drop 24 := by
  unfold cut
  exact List.take_of_length_le (by rw [List.length_drop]; omega)
theorem bytesIn_drop {xs : List (List D)} (h : bytesIn xs = true) (n : Nat) : bytesIn (xs.drop n) = true :=
  List.all_eq_true.2 fun e he => List.all_eq_true.1 h e (List.mem_of_mem_drop he)
theorem bytesIn_take {xs : List (List D)} (h : bytesIn xs = true) (n : Nat) : bytesIn (xs.take n) = true :=
  List.all_eq_true.2 fun e he => List.all_eq_true.1 h e (List.mem_of_mem_take he)
theorem tr_rr (b h s y g : List (List D)) (b0 b1 b2 b3 b4 b5 b6 b7 b8 b9 : Int) : ∀ (d : Nat) (x l : List (List D)) (e : Int), bytesIn x = true → x.length ≤ 1048576 → x.length ≤ d → l.length + x.length ≤ 2147483648 →
    Tr.prop es3 (93, Try.f93, 1) (RQ ⟨b, h, s, y, (relR b7 d x e l).1, g, (relR b7 d x e l).2⟩) (rptt2 x b h s y l g e b0 b1 b2 b3 b4 b5 b6 b7 b8 b9) := by
  intro d
  induction d with
  | zero =>
    intro x l e hx hl hd hb
    unfold rptt2
    exact askF (decF (by omega)) ⟨.one (.one (.refl _)), rfl⟩
  | succ d ih =>
    intro x l e hx hl hd hb
    unfold rptt2
    refine ask (fun ha => ?_) (fun ha => ?_)
    · have ha := of_decide_eq_true ha
      have ha' : 24 ≤ x.length := by omega
      simp only [c24a, c24b]
      have e0 : relR b7 (d + 1) x e l = relR b7 d (x.drop 24) (if relRe (x.take 24) ≠ 0 then relRe (x.take 24) else e) (l ++ [relOne (x.take 24) b7]) := by rw [relR, if_pos ha']
      rw [e0]
      refine askT (okB (by omega) (by omega) (by omega)) (askT (show bytesIn (x.take 24) = true from bytesIn_take hx 24) (ask (fun hr => ?_) (fun hr => ?_)))
      · rw [if_pos (bne_iff_ne.1 hr)]
        refine askT (andT (decT (by simp only [List.length_cons, List.length_nil]; omega)) (decT (by simp only [List.length_cons, List.length_nil]; omega))) (askT (okB (by omega) (by omega) (by omega)) ?_)
        exact Runs.of (fun q => rptp5 q _ b h s y _ g _ b0 b1 b2 b3 b4 b5 b6 b7 b8 b9) (ih (x.drop 24) _ _ (bytesIn_drop hx 24) (by rw [List.length_drop]; omega) (by rw [List.length_drop]; omega) (by rw [List.length_append, List.length_drop]; simp only [List.length_cons, List.length_nil]; omega))
      · rw [if_neg (by simpa [bne] using hr)]
        refine askT (andT (decT (by simp only [List.length_cons, List.length_nil]; omega)) (decT (by simp only [List.length_cons, List.length_nil]; omega))) (askT (okB (by omega) (by omega) (by omega)) ?_)
        exact Runs.of (fun q => rptp5 q _ b h s y _ g _ b0 b1 b2 b3 b4 b5 b6 b7 b8 b9) (ih (x.drop 24) _ _ (bytesIn_drop hx 24) (by rw [List.length_drop]; omega) (by rw [List.length_drop]; omega) (by rw [List.length_append, List.length_drop]; simp only [List.length_cons, List.length_nil]; omega))
    · have ha := of_decide_eq_false ha
      have e0 : relR b7 (d + 1) x e l = (l, e) := by rw [relR, if_neg (by omega)]
      rw [e0]
      exact ⟨.one (.one (.refl _)), rfl⟩
/-! ### Symbols -/
theorem okI0 (n : Int) : okI 0 n = n := rfl
theorem okT0 (b : Bool) : okT 0 b = b := by simp [okT]
theorem runs_rsy (x : List (List D)) (hx : bytesIn x = true) (hl : x.length ≤ 1048576) (b h s l g : List (List D)) (hbl : b.length ≤ 1048576) (hh : 2 ≤ h.length) (hh2 : h.length ≤ 1048576) : ∀ (d : Nat) (a e : Int) (y : List (List D)), 24 ≤ a → a ≤ x.length + 24 → (x.length : Int) ≤ a + d → (y.length : Int) ≤ 1073741824 + a →
    Runs es3 (93, Try.f93, 1) rptk3 (rpts3 x a b h s y l g e) (RQ (symR x d a ⟨b, h, s, y, l, g, e⟩)) := by
  intro d
  induction d with
  | zero =>
    intro a e y h1 h2 h3 h4
    refine Runs.of (fun q => rptp3 q x a b h s y l g e) ?_
    unfold rptt3
    have hw : IntKind.wrap .i64 (a + 24) = a + 24 := wrap64 (by omega) (by omega)
    exact askF (decF (by rw [hw]; omega)) ⟨.one (.one (.refl _)), rfl⟩
  | succ d ih =>
    intro a e y h1 h2 h3 h4
    refine Runs.of (fun q => rptp3 q x a b h s y l g e) ?_
    unfold rptt3
    have hw : IntKind.wrap .i64 (a + 24) = a + 24 := wrap64 (by omega) (by omega)
    have hw2 : (IntKind.wrap .i64 ((h.length : Int) - 2)) = ((h.length - 2 : Nat) : Int) := by rw [wrap64 (by omega) (by omega)]; omega
    simp only [hw, hw2, Int.toNat_natCast]
    refine ask (fun ha => ?_) (fun ha => ?_)
    · have ha := of_decide_eq_true ha
      refine ask (fun he => ?_) (fun he => ?_)
      · have he : e = 0 := beq_iff_eq.1 he
        refine askT (okB (by omega) (by omega) (by omega)) (askT (show bytesIn (cut x a (a + 24)) = true from bytesIn_cut hx _ _) (ask (fun hr => ?_) (fun hr => ?_)))
        · have hr := bne_iff_ne.1 hr
          have e0 : symR x (d + 1) a ⟨b, h, s, y, l, g, e⟩ = ⟨b, h, s, y, l, g, symRe (cut x a (a + 24))⟩ := by
            rw [symR, if_pos ⟨ha, he⟩, if_pos hr]
          rw [e0]
          exact ⟨.one (.one (.refl _)), rfl⟩
        · have hr : symRe (cut x a (a + 24)) = 0 := by simpa [bne] using hr
          have e0 : symR x (d + 1) a ⟨b, h, s, y, l, g, e⟩ = symR x d (a + 24) ⟨b, h, s, y ++ [symOne (cut x a (a + 24)) (nameS ⟨b, h, s, y, l, g, e⟩ (h.length - 2) (getV (cut x a (a + 24)) 0 4))], l, g, nameE ⟨b, h, s, y, l, g, e⟩ (h.length - 2) (getV (cut x a (a + 24)) 0 4)⟩ := by
            rw [symR, if_pos ⟨ha, he⟩, if_neg (by simp [hr])]
          rw [e0]
          simp only [hr, okI0, okT0]
          refine askT (show (decide (b.length ≤ 1048576) && decide ((0 : Int) ≤ ((h.length - 2 : Nat) : Int)) && decide (((h.length - 2 : Nat) : Int) < (h.length : Nat))) = true from andT (andT (decT hbl) (decT (by omega))) (decT (by omega))) (askT (andT (decT (by simp only [List.length_cons, List.length_nil]; omega)) (decT (by simp only [List.length_cons, List.length_nil]; omega))) ?_)
          exact ih (a + 24) _ _ (by omega) (by omega) (by omega) (by rw [List.length_append]; simp only [List.length_cons, List.length_nil]; omega)
      · have he : ¬ e = 0 := beq_eq_false_iff_ne.1 he
        have e0 : symR x (d + 1) a ⟨b, h, s, y, l, g, e⟩ = ⟨b, h, s, y, l, g, e⟩ := by
          rw [symR, if_neg (fun hc => he hc.2)]
        rw [e0]
        exact ⟨.one (.one (.refl _)), rfl⟩
    · have ha := of_decide_eq_false ha
      have e0 : symR x (d + 1) a ⟨b, h, s, y, l, g, e⟩ = ⟨b, h, s, y, l, g, e⟩ := by
        rw [symR, if_neg (fun hc => ha hc.1)]
      rw [e0]
      exact ⟨.one (.one (.refl _)), rfl⟩
/-! ### part -/
theorem con_rpt : ∀ vs os r, pRpt vs os = true → gRpt vs os = some r → Contract Try.prog 93 vs [os] (r.1, [r.2]) := by
  intro vs os r hp h
  unfold gRpt at h
  split at h
  · rename_i a0 a1 a2 a3 a4 a5 a6 a7 a8 a9
    split at h
    · rename_i d hd
      cases h
      simp only [pRpt, hd, rdBig, Bool.and_eq_true, decide_eq_true_eq] at hp
      obtain ⟨⟨⟨⟨⟨⟨⟨p1, p2⟩, p3⟩, p4⟩, p5⟩, p6⟩, p7⟩, p8⟩ := hp
      have := rdOf_eq hd
      subst this
      refine el_conO le3_ok Try.func93 (by kernel_rfl) (by kernel_rfl) rfl (by kernel_rfl) (by kernel_rfl) (Runs.of (fun q => rptp0 q a0 a1 a2 a3 a4 a5 a6 a7 a8 a9 d.b d.h d.s d.y d.l d.g d.e) ?_)
      unfold rptt0
      have hw1 : (IntKind.wrap .i64 ((d.h.length : Int) - 1)) = ((d.h.length - 1 : Nat) : Int) := by rw [wrap64 (by omega) (by omega)]; omega
      simp only [hw1, Int.toNat_natCast]
      have hX : bytesIn (partX d ⟨a0, a1, a2, a3, a4, a5, a6, a7, a8, a9⟩) = true := bytesIn_cutV p1 _ _ _
      have hXl : (partX d ⟨a0, a1, a2, a3, a4, a5, a6, a7, a8, a9⟩).length ≤ 1048576 := Nat.le_trans (cutV_len _ _ _) p2
      refine askT (show (decide (d.b.length ≤ 1048576) && decide ((0 : Int) ≤ ((d.h.length - 1 : Nat) : Int)) && decide (((d.h.length - 1 : Nat) : Int) < (d.h.length : Nat))) = true from andT (andT (decT p2) (decT (by omega))) (decT (by omega))) (ask (fun h8 => ?_) (fun h8 => ?_))
      · have h8 : a1 = 8 := beq_iff_eq.1 h8
        have e0 : partR d ⟨a0, a1, a2, a3, a4, a5, a6, a7, a8, a9⟩ = { partN d ⟨a0, a1, a2, a3, a4, a5, a6, a7, a8, a9⟩ with s := d.s ++ [[.str (nameS d (d.h.length - 1) a0), .int a8, .arr [], .int a5]] } := by rw [partR, if_pos h8]
        rw [e0]
        exact askT (andT (decT (by simp only [List.length_cons, List.length_nil]; omega)) (decT (by simp only [List.length_cons, List.length_nil]; omega))) ⟨.one (.one (.refl _)), rfl⟩
      have h8 : ¬ a1 = 8 := beq_eq_false_iff_ne.1 h8
      refine askT (show decide (d.b.length ≤ 1048576) = true from decT p2) (ask (fun h1 => ?_) (fun h1 => ?_))
      · have h1 : a1 = 1 := beq_iff_eq.1 h1
        have e0 : partR d ⟨a0, a1, a2, a3, a4, a5, a6, a7, a8, a9⟩ = { partC d ⟨a0, a1, a2, a3, a4, a5, a6, a7, a8, a9⟩ with s := d.s ++ [[.str (nameS d (d.h.length - 1) a0), .int a8, .arr (partX d ⟨a0, a1, a2, a3, a4, a5, a6, a7, a8, a9⟩), .int 0]] } := by rw [partR, if_neg h8, if_pos h1]
        rw [e0]
        exact askT (show decide ((partX d ⟨a0, a1, a2, a3, a4, a5, a6, a7, a8, a9⟩).length ≤ 1048576) = true from decT hXl) (askT (andT (decT (by simp only [List.length_cons, List.length_nil]; omega)) (decT (by simp only [List.length_cons, List.length_nil]; omega))) ⟨.one (.one (.refl _)), rfl⟩)
      have h1 : ¬ a1 = 1 := beq_eq_false_iff_ne.1 h1
      refine ask (fun h17 => ?_) (fun h17 => ?_)
      · have h17 : a1 = 17 := beq_iff_eq.1 h17
        have e0 : partR d ⟨a0, a1, a2, a3, a4, a5, a6, a7, a8, a9⟩ = { partC d ⟨a0, a1, a2, a3, a4, a5, a6, a7, a8, a9⟩ with g := d.g ++ [[.str (cutName (nameS d (d.h.length - 1) a0)), .arr (grpR (partX d ⟨a0, a1, a2, a3, a4, a5, a6, a7, a8, a9⟩) (partX d ⟨a0, a1, a2, a3, a4, a5, a6, a7, a8, a9⟩).length 4 (partC d ⟨a0, a1, a2, a3, a4, a5, a6, a7, a8, a9⟩).e []).1]], e := (grpR (partX d ⟨a0, a1, a2, a3, a4, a5, a6, a7, a8, a9⟩) (partX d ⟨a0, a1, a2, a3, a4, a5, a6, a7, a8, a9⟩).length 4 (partC d ⟨a0, a1, a2, a3, a4, a5, a6, a7, a8, a9⟩).e []).2 } := by rw [partR, if_neg h8, if_neg h1, if_pos h17]
        rw [e0]
        refine askT (okB (by split <;> omega) (by split <;> omega) (by omega)) ?_
        exact runs_rg1 _ hX hXl d.b d.h d.s d.y d.l d.g p8 _ _
      have h17 : ¬ a1 = 17 := beq_eq_false_iff_ne.1 h17
      refine ask (fun h4 => ?_) (fun h4 => ?_)
      · have h4 : a1 = 4 := beq_iff_eq.1 h4
        have e0 : partR d ⟨a0, a1, a2, a3, a4, a5, a6, a7, a8, a9⟩ = { partC d ⟨a0, a1, a2, a3, a4, a5, a6, a7, a8, a9⟩ with l := (relR a7 (partX d ⟨a0, a1, a2, a3, a4, a5, a6, a7, a8, a9⟩).length (partX d ⟨a0, a1, a2, a3, a4, a5, a6, a7, a8, a9⟩) (partC d ⟨a0, a1, a2, a3, a4, a5, a6, a7, a8, a9⟩).e d.l).1, e := (relR a7 (partX d ⟨a0, a1, a2, a3, a4, a5, a6, a7, a8, a9⟩).length (partX d ⟨a0, a1, a2, a3, a4, a5, a6, a7, a8, a9⟩) (partC d ⟨a0, a1, a2, a3, a4, a5, a6, a7, a8, a9⟩).e d.l).2 } := by rw [partR, if_neg h8, if_neg h1, if_neg h17, if_pos h4]
        rw [e0]
        exact Runs.of (fun q => rptp2 q _ _ _ _ _ _ _ _ _ _ _ _ _ _ _ _ _ _ _ _) (tr_rr d.b d.h d.s d.y d.g _ _ _ _ _ _ _ _ _ _ _ (partX d ⟨a0, a1, a2, a3, a4, a5, a6, a7, a8, a9⟩) d.l _ hX hXl (Nat.le_refl _) (by omega))
      have h4 : ¬ a1 = 4 := beq_eq_false_iff_ne.1 h4
      refine ask (fun h2 => ?_) (fun h2 => ?_)
      · have h2 : a1 = 2 := beq_iff_eq.1 h2
        have e0 : partR d ⟨a0, a1, a2, a3, a4, a5, a6, a7, a8, a9⟩ = symR (partX d ⟨a0, a1, a2, a3, a4, a5, a6, a7, a8, a9⟩) (partX d ⟨a0, a1, a2, a3, a4, a5, a6, a7, a8, a9⟩).length 24 (partC d ⟨a0, a1, a2, a3, a4, a5, a6, a7, a8, a9⟩) := by rw [partR, if_neg h8, if_neg h1, if_neg h17, if_neg h4, if_pos h2]
        rw [e0]
        exact runs_rsy (partX d ⟨a0, a1, a2, a3, a4, a5, a6, a7, a8, a9⟩) hX hXl d.b d.h d.s d.l d.g p2 p3 p4 _ 24 _ d.y (by omega) (by omega) (by omega) (by omega)
      · have h2 : ¬ a1 = 2 := beq_eq_false_iff_ne.1 h2
        have e0 : partR d ⟨a0, a1, a2, a3, a4, a5, a6, a7, a8, a9⟩ = partC d ⟨a0, a1, a2, a3, a4, a5, a6, a7, a8, a9⟩ := by rw [partR, if_neg h8, if_neg h1, if_neg h17, if_neg h4, if_neg h2]
        rw [e0]
        exact ⟨.one (.one (.refl _)), rfl⟩
    · cases h
  · cases h
theorem le5_ok : ExtAll Try.prog le5 := .box con_rpt le3_ok
end Go.Proofs.Ytkcopbnaleiocaa.Ev
