/- A part of the proof: what the statement needs, and nothing else. -/
import Derived.Test.YtkcopbnaleiocaaZb28
namespace Go.Proofs.Ytkcopbnaleiocaa.Ev
open Go
set_option linter.unusedVariables false
set_option linter.unusedSimpArgs false
abbrev RQ (r : Rd) : R → Prop := fun q => Relax q.1 (.tup []) ∧ q.2 = [r.cells]
theorem cutV_len {b : List (List D)} (a n e : Int) : (cutV b a n e).length ≤ b.length := by
  unfold cutV
  split
  · unfold cut; rw [List.length_take, List.length_drop]; omega
  · simp
theorem runs_rg4 (x : List (List D)) (hx : bytesIn x = true) (hl : x.length ≤ 1048576) (b h s y l g : List (List D)) (hg : g.length ≤ 1073741824) (nm : ByteArray) : ∀ (d : Nat) (a e : Int) (c : List (List D)), 4 ≤ a → a ≤ x.length + 4 → (x.length : Int) ≤ a + 4 * d → (c.length : Int) ≤ a →
    Runs es3 (93, Try.f93, 1) rptk4 (rpts4 x a b h s y l g e nm c) (RQ ⟨b, h, s, y, l, g ++ [[.str nm, .arr (grpR x d a e c).1]], (grpR x d a e c).2⟩) := by
  intro d
  induction d with
  | zero =>
    intro a e c h1 h2 h3 h4
    refine Runs.of (fun q => rptp4 q x a b h s y l g e nm c) ?_
    unfold rptt4
    exact askF (decF (by omega)) (askT (andT (decT (by simp only [List.length_cons, List.length_nil]; omega)) (decT (by simp only [List.length_cons, List.length_nil]; omega))) ⟨.one (.one (.refl _)), rfl⟩)
  | succ d ih =>
    intro a e c h1 h2 h3 h4
    refine Runs.of (fun q => rptp4 q x a b h s y l g e nm c) ?_
    unfold rptt4
    refine ask (fun ha => ?_) (fun ha => ?_)
    · have ha := of_decide_eq_true ha
      have hw : IntKind.wrap .i64 (a + 4) = a + 4 := wrap64 (by omega) (by omega)
      have e0 : grpR x (d + 1) a e c = grpR x d (a + 4) (numE x a 4 e) (c ++ [[.int (getV x a 4)]]) := by rw [grpR, if_pos ha]
      rw [e0, hw]
      refine askT (show (bytesIn x && decide (x.length ≤ 1048576)) = true from andT hx (decT hl)) (askT (andT (decT (by simp only [List.length_cons, List.length_nil]; omega)) (decT (by simp only [List.length_cons, List.length_nil]; omega))) ?_)
      exact ih (a + 4) _ _ (by omega) (by omega) (by omega) (by rw [List.length_append]; simp only [List.length_cons, List.length_nil]; omega)
    · have ha := of_decide_eq_false ha
      have e0 : grpR x (d + 1) a e c = (c, e) := by rw [grpR, if_neg ha]
      rw [e0]
      exact askT (andT (decT (by simp only [List.length_cons, List.length_nil]; omega)) (decT (by simp only [List.length_cons, List.length_nil]; omega))) ⟨.one (.one (.refl _)), rfl⟩
theorem runs_rg1 (x : List (List D)) (hx : bytesIn x = true) (hl : x.length ≤ 1048576) (b h s y l g : List (List D)) (hg : g.length ≤ 1073741824) (nm : ByteArray) (e : Int) :
    Runs es3 (93, Try.f93, 1) rptk1 (rpts1 x 4 b h s y l g e nm) (RQ ⟨b, h, s, y, l, g ++ [[.str nm, .arr (grpR x x.length 4 e []).1]], (grpR x x.length 4 e []).2⟩) := by
  refine Runs.of (fun q => rptp1 q x 4 b h s y l g e nm) ?_
  unfold rptt1
  refine ask (fun ha => ?_) (fun ha => ?_)
  · have ha := of_decide_eq_true ha
    have hw : IntKind.wrap .i64 ((4 : Int) + 4) = 8 := by rw [wrap64 (by omega) (by omega)]; rfl
    obtain ⟨d, hd⟩ : ∃ d, x.length = d + 1 := ⟨x.length - 1, by omega⟩
    have e0 : grpR x x.length 4 e [] = grpR x d 8 (numE x 4 4 e) [[.int (getV x 4 4)]] := by
      rw [hd, grpR, if_pos ha]; rfl
    rw [e0, hw]
    refine askT (show (bytesIn x && decide (x.length ≤ 1048576)) = true from andT hx (decT hl)) ?_
    exact runs_rg4 x hx hl b h s y l g hg nm d 8 _ _ (by omega) (by omega) (by omega) (by simp)
  · have ha := of_decide_eq_false ha
    have e0 : grpR x x.length 4 e [] = ([], e) := by
      cases x.length with
      | zero => rfl
      | succ d => rw [grpR, if_neg ha]
    rw [e0]
    exact askT (andT (decT (by simp only [List.length_cons, List.length_nil]; omega)) (decT (by simp only [List.length_cons, List.length_nil]; omega))) ⟨.one (.one (.refl _)), rfl⟩
theorem c24a (x : List (List D)) : cut x 0 24 = x.take 24 := by simp [cut]
theorem c24b (x : List (List D)) : cut x 24 (x.length : Nat) = x.drop 24 := by
  unfold cut
  exact List.take_of_length_le (by rw [List.length_drop]; omega)
theorem bytesIn_drop {xs : List (List D)} (h : bytesIn xs = true) (n : Nat) : bytesIn (xs.drop n) = true :=
  List.all_eq_true.2 fun e he => List.all_eq_true.1 h e (List.mem_of_mem_drop he)
theorem bytesIn_take {xs : List (List D)} (h : bytesIn xs = true) (n : Nat) : bytesIn (xs.take n) = true :=
  List.all_eq_true.2 fun e he => List.all_eq_true.1 h e (List.mem_of_mem_take he)
theorem tr_rr (b h s y g : List (List D)) (b0 b1 b2 b3 b4 b5 b6 b7 b8 b9 : Int) : ∀ (d : Nat) (x l : List (List D)) (e : Int), bytesIn x = true → x.length ≤ 1048576 → x.length ≤ d → l.length + x.length ≤ 2147483648 →
    Tr.prop es3 (93, Try.f93, 1) (RQ ⟨b, h, s, y, (relR b7 d x e l).1, g, (relR b7 d x e l).2⟩) (rptt2 x b h s y l g e b0 b1 b2 b3 b4 b5 b6 b7 b8 b9) := by
  intro d
  induction d with
  | zero =>
    intro x l e hx hl hd hb
    unfold rptt2
    exact askF (decF (by omega)) ⟨.one (.one (.refl _)), rfl⟩
  | succ d ih =>
    intro x l e hx hl hd hb
    unfold rptt2
    refine ask (fun ha => ?_) (fun ha => ?_)
    · have ha := of_decide_eq_true ha
      have ha' : 24 ≤ x.length := by omega
      simp only [c24a, c24b]
      have e0 : relR b7 (d + 1) x e l = relR b7 d (x.drop 24) (if relRe (x.take 24) ≠ 0 then relRe (x.take 24) else e) (l ++ [relOne (x.take 24) b7]) := by rw [relR, if_pos ha']
      rw [e0]
      refine askT (okB (by omega) (by omega) (by omega)) (askT (show bytesIn (x.take 24) = true from bytesIn_take hx 24) (ask (fun hr => ?_) (fun hr => ?_)))
      · rw [if_pos (bne_iff_ne.1 hr)]
        refine askT (andT (decT (by simp only [List.length_cons, List.length_nil]; omega)) (decT (by simp only [List.length_cons, List.length_nil]; omega))) (askT (okB (by omega) (by omega) (by omega)) ?_)
        exact Runs.of (fun q => rptp5 q _ b h s y _ g _ b0 b1 b2 b3 b4 b5 b6 b7 b8 b9) (ih (x.drop 24) _ _ (bytesIn_drop hx 24) (by rw [List.length_drop]; omega) (by rw [List.length_drop]; omega) (by rw [List.length_append, List.length_drop]; simp only [List.length_cons, List.length_nil]; omega))
      · rw [if_neg (by simpa [bne] using hr)]
        refine askT (andT (decT (by simp only [List.length_cons, List.length_nil]; omega)) (decT (by simp only [List.length_cons, List.length_nil]; omega))) (askT (okB (by omega) (by omega) (by omega)) ?_)
        exact Runs.of (fun q => rptp5 q _ b h s y _ g _ b0 b1 b2 b3 b4 b5 b6 b7 b8 b9) (ih (x.drop 24) _ _ (bytesIn_drop hx 24) (by rw [List.length_drop]; omega) (by rw [List.length_drop]; omega) (by rw [List.length_append, List.length_drop]; simp only [List.length_cons, List.length_nil]; omega))
    · have ha := of_decide_eq_false ha
      have e0 : relR b7 (d + 1) x e l = (l, e) := by rw [relR, if_neg (by omega)]
      rw [e0]
      exact ⟨.one (.one (.refl _)), rfl⟩
theorem okI0 (n : Int) : okI 0 n = n := rfl
theorem okT0 (b : Bool) : okT 0 b = b := by simp [okT]
theorem runs_rsy (x : List (List D)) (hx : bytesIn x = true) (hl : x.length ≤ 1048576) (b h s l g : List (List D)) (hbl : b.length ≤ 1048576) (hh : 2 ≤ h.length) (hh2 : h.length ≤ 1048576) : ∀ (d : Nat) (a e : Int) (y : List (List D)), 24 ≤ a → a ≤ x.length + 24 → (x.length : Int) ≤ a + d → (y.length : Int) ≤ 1073741824 + a →
    Runs es3 (93, Try.f93, 1) rptk3 (rpts3 x a b h s y l g e) (RQ (symR x d a ⟨b, h, s, y, l, g, e⟩)) := by
  intro d
  induction d with
  | zero =>
    intro a e y h1 h2 h3 h4
    refine Runs.of (fun q => rptp3 q x a b h s y l g e) ?_
    unfold rptt3
    have hw : IntKind.wrap .i64 (a + 24) = a + 24 := wrap64 (by omega) (by omega)
    exact askF (decF (by rw [hw]; omega)) ⟨.one (.one (.refl _)), rfl⟩
  | succ d ih =>
    intro a e y h1 h2 h3 h4
    refine Runs.of (fun q => rptp3 q x a b h s y l g e) ?_
    unfold rptt3
    have hw : IntKind.wrap .i64 (a + 24) = a + 24 := wrap64 (by omega) (by omega)
    have hw2 : (IntKind.wrap .i64 ((h.length : Int) - 2)) = ((h.length - 2 : Nat) : Int) := by rw [wrap64 (by omega) (by omega)]; omega
    simp only [hw, hw2, Int.toNat_natCast]
    refine ask (fun ha => ?_) (fun ha => ?_)
    · have ha := of_decide_eq_true ha
      refine ask (fun he => ?_) (fun he => ?_)
      · have he : e = 0 := beq_iff_eq.1 he
        refine askT (okB (by omega) (by omega) (by omega)) (askT (show bytesIn (cut x a (a + 24)) = true from bytesIn_cut hx _ _) (ask (fun hr => ?_) (fun hr => ?_)))
        · have hr := bne_iff_ne.1 hr
          have e0 : symR x (d + 1) a ⟨b, h, s, y, l, g, e⟩ = ⟨b, h, s, y, l, g, symRe (cut x a (a + 24))⟩ := by
            rw [symR, if_pos ⟨ha, he⟩, if_pos hr]
          rw [e0]
          exact ⟨.one (.one (.refl _)), rfl⟩
        · have hr : symRe (cut x a (a + 24)) = 0 := by simpa [bne] using hr
          have e0 : symR x (d + 1) a ⟨b, h, s, y, l, g, e⟩ = symR x d (a + 24) ⟨b, h, s, y ++ [symOne (cut x a (a + 24)) (nameS ⟨b, h, s, y, l, g, e⟩ (h.length - 2) (getV (cut x a (a + 24)) 0 4))], l, g, nameE ⟨b, h, s, y, l, g, e⟩ (h.length - 2) (getV (cut x a (a + 24)) 0 4)⟩ := by
            rw [symR, if_pos ⟨ha, he⟩, if_neg (by simp [hr])]
          rw [e0]
          simp only [hr, okI0, okT0]
          refine askT (show (decide (b.length ≤ 1048576) && decide ((0 : Int) ≤ ((h.length - 2 : Nat) : Int)) && decide (((h.length - 2 : Nat) : Int) < (h.length : Nat))) = true from andT (andT (decT hbl) (decT (by omega))) (decT (by omega))) (askT (andT (decT (by simp only [List.length_cons, List.length_nil]; omega)) (decT (by simp only [List.length_cons, List.length_nil]; omega))) ?_)
          exact ih (a + 24) _ _ (by omega) (by omega) (by omega) (by rw [List.length_append]; simp only [List.length_cons, List.length_nil]; omega)
      · have he : ¬ e = 0 := beq_eq_false_iff_ne.1 he
        have e0 : symR x (d + 1) a ⟨b, h, s, y, l, g, e⟩ = ⟨b, h, s, y, l, g, e⟩ := by
          rw [symR, if_neg (fun hc => he hc.2)]
        rw [e0]
        exact ⟨.one (.one (.refl _)), rfl⟩
    · have ha := of_decide_eq_false ha
      have e0 : symR x (d + 1) a ⟨b, h, s, y, l, g, e⟩ = ⟨b, h, s, y, l, g, e⟩ := by
        rw [symR, if_neg (fun hc => ha hc.1)]
      rw [e0]
      exact ⟨.one (.one (.refl _)), rfl⟩
theorem con_rpt : ∀ vs os r, pRpt vs os = true → gRpt vs os = some r → Contract Try.prog 93 vs [os] (r.1, [r.2]) := by
  intro vs os r hp h
  unfold gRpt at h
  split at h
  · rename_i a0 a1 a2 a3 a4 a5 a6 a7 a8 a9
    split at h
    · rename_i d hd
      cases h
      simp only [pRpt, hd, rdBig, Bool.and_eq_true, decide_eq_true_eq] at hp
      obtain ⟨⟨⟨⟨⟨⟨⟨p1, p2⟩, p3⟩, p4⟩, p5⟩, p6⟩, p7⟩, p8⟩ := hp
      have := rdOf_eq hd
      subst this
      refine el_conO le3_ok Try.func93 (by kernel_rfl) (by kernel_rfl) rfl (by kernel_rfl) (by kernel_rfl) (Runs.of (fun q => rptp0 q a0 a1 a2 a3 a4 a5 a6 a7 a8 a9 d.b d.h d.s d.y d.l d.g d.e) ?_)
      unfold rptt0
      have hw1 : (IntKind.wrap .i64 ((d.h.length : Int) - 1)) = ((d.h.length - 1 : Nat) : Int) := by rw [wrap64 (by omega) (by omega)]; omega
      simp only [hw1, Int.toNat_natCast]
      have hX : bytesIn (partX d ⟨a0, a1, a2, a3, a4, a5, a6, a7, a8, a9⟩) = true := bytesIn_cutV p1 _ _ _
      have hXl : (partX d ⟨a0, a1, a2, a3, a4, a5, a6, a7, a8, a9⟩).length ≤ 1048576 := Nat.le_trans (cutV_len _ _ _) p2
      refine askT (show (decide (d.b.length ≤ 1048576) && decide ((0 : Int) ≤ ((d.h.length - 1 : Nat) : Int)) && decide (((d.h.length - 1 : Nat) : Int) < (d.h.length : Nat))) = true from andT (andT (decT p2) (decT (by omega))) (decT (by omega))) (ask (fun h8 => ?_) (fun h8 => ?_))
      · have h8 : a1 = 8 := beq_iff_eq.1 h8
        have e0 : partR d ⟨a0, a1, a2, a3, a4, a5, a6, a7, a8, a9⟩ = { partN d ⟨a0, a1, a2, a3, a4, a5, a6, a7, a8, a9⟩ with s := d.s ++ [[.str (nameS d (d.h.length - 1) a0), .int a8, .arr [], .int a5]] } := by rw [partR, if_pos h8]
        rw [e0]
        exact askT (andT (decT (by simp only [List.length_cons, List.length_nil]; omega)) (decT (by simp only [List.length_cons, List.length_nil]; omega))) ⟨.one (.one (.refl _)), rfl⟩
      have h8 : ¬ a1 = 8 := beq_eq_false_iff_ne.1 h8
      refine askT (show decide (d.b.length ≤ 1048576) = true from decT p2) (ask (fun h1 => ?_) (fun h1 => ?_))
      · have h1 : a1 = 1 := beq_iff_eq.1 h1
        have e0 : partR d ⟨a0, a1, a2, a3, a4, a5, a6, a7, a8, a9⟩ = { partC d ⟨a0, a1, a2, a3, a4, a5, a6, a7, a8, a9⟩ with s := d.s ++ [[.str (nameS d (d.h.length - 1) a0), .int a8, .arr (partX d ⟨a0, a1, a2, a3, a4, a5, a6, a7, a8, a9⟩), .int 0]] } := by rw [partR, if_neg h8, if_pos h1]
        rw [e0]
        exact askT (show decide ((partX d ⟨a0, a1, a2, a3, a4, a5, a6, a7, a8, a9⟩).length ≤ 1048576) = true from decT hXl) (askT (andT (decT (by simp only [List.length_cons, List.length_nil]; omega)) (decT (by simp only [List.length_cons, List.length_nil]; omega))) ⟨.one (.one (.refl _)), rfl⟩)
      have h1 : ¬ a1 = 1 := beq_eq_false_iff_ne.1 h1
      refine ask (fun h17 => ?_) (fun h17 => ?_)
      · have h17 : a1 = 17 := beq_iff_eq.1 h17
        have e0 : partR d ⟨a0, a1, a2, a3, a4, a5, a6, a7, a8, a9⟩ = { partC d ⟨a0, a1, a2, a3, a4, a5, a6, a7, a8, a9⟩ with g := d.g ++ [[.str (cutName (nameS d (d.h.length - 1) a0)), .arr (grpR (partX d ⟨a0, a1, a2, a3, a4, a5, a6, a7, a8, a9⟩) (partX d ⟨a0, a1, a2, a3, a4, a5, a6, a7, a8, a9⟩).length 4 (partC d ⟨a0, a1, a2, a3, a4, a5, a6, a7, a8, a9⟩).e []).1]], e := (grpR (partX d ⟨a0, a1, a2, a3, a4, a5, a6, a7, a8, a9⟩) (partX d ⟨a0, a1, a2, a3, a4, a5, a6, a7, a8, a9⟩).length 4 (partC d ⟨a0, a1, a2, a3, a4, a5, a6, a7, a8, a9⟩).e []).2 } := by rw [partR, if_neg h8, if_neg h1, if_pos h17]
        rw [e0]
        refine askT (okB (by split <;> omega) (by split <;> omega) (by omega)) ?_
        exact runs_rg1 _ hX hXl d.b d.h d.s d.y d.l d.g p8 _ _
      have h17 : ¬ a1 = 17 := beq_eq_false_iff_ne.1 h17
      refine ask (fun h4 => ?_) (fun h4 => ?_)
      · have h4 : a1 = 4 := beq_iff_eq.1 h4
        have e0 : partR d ⟨a0, a1, a2, a3, a4, a5, a6, a7, a8, a9⟩ = { partC d ⟨a0, a1, a2, a3, a4, a5, a6, a7, a8, a9⟩ with l := (relR a7 (partX d ⟨a0, a1, a2, a3, a4, a5, a6, a7, a8, a9⟩).length (partX d ⟨a0, a1, a2, a3, a4, a5, a6, a7, a8, a9⟩) (partC d ⟨a0, a1, a2, a3, a4, a5, a6, a7, a8, a9⟩).e d.l).1, e := (relR a7 (partX d ⟨a0, a1, a2, a3, a4, a5, a6, a7, a8, a9⟩).length (partX d ⟨a0, a1, a2, a3, a4, a5, a6, a7, a8, a9⟩) (partC d ⟨a0, a1, a2, a3, a4, a5, a6, a7, a8, a9⟩).e d.l).2 } := by rw [partR, if_neg h8, if_neg h1, if_neg h17, if_pos h4]
        rw [e0]
        exact Runs.of (fun q => rptp2 q _ _ _ _ _ _ _ _ _ _ _ _ _ _ _ _ _ _ _ _) (tr_rr d.b d.h d.s d.y d.g _ _ _ _ _ _ _ _ _ _ _ (partX d ⟨a0, a1, a2, a3, a4, a5, a6, a7, a8, a9⟩) d.l _ hX hXl (Nat.le_refl _) (by omega))
      have h4 : ¬ a1 = 4 := beq_eq_false_iff_ne.1 h4
      refine ask (fun h2 => ?_) (fun h2 => ?_)
      · have h2 : a1 = 2 := beq_iff_eq.1 h2
        have e0 : partR d ⟨a0, a1, a2, a3, a4, a5, a6, a7, a8, a9⟩ = symR (partX d ⟨a0, a1, a2, a3, a4, a5, a6, a7, a8, a9⟩) (partX d ⟨a0, a1, a2, a3, a4, a5, a6, a7, a8, a9⟩).length 24 (partC d ⟨a0, a1, a2, a3, a4, a5, a6, a7, a8, a9⟩) := by rw [partR, if_neg h8, if_neg h1, if_neg h17, if_neg h4, if_pos h2]
        rw [e0]
        exact runs_rsy (partX d ⟨a0, a1, a2, a3, a4, a5, a6, a7, a8, a9⟩) hX hXl d.b d.h d.s d.l d.g p2 p3 p4 _ 24 _ d.y (by omega) (by omega) (by omega) (by omega)
      · have h2 : ¬ a1 = 2 := beq_eq_false_iff_ne.1 h2
        have e0 : partR d ⟨a0, a1, a2, a3, a4, a5, a6, a7, a8, a9⟩ = partC d ⟨a0, a1, a2, a3, a4, a5, a6, a7, a8, a9⟩ := by rw [partR, if_neg h8, if_neg h1, if_neg h17, if_neg h4, if_neg h2]
        rw [e0]
        exact ⟨.one (.one (.refl _)), rfl⟩
    · cases h
  · cases h
theorem le5_ok : ExtAll Try.prog le5 := .box con_rpt le3_ok
end Go.Proofs.Ytkcopbnaleiocaa.Ev
namespace Go.Proofs.Ytkcopbnaleiocaa.Ev
open Go
set_option linter.unusedVariables false
set_option linter.unusedSimpArgs false
theorem allGo_in (place : Int) : ∀ (d i : Nat) (r : Rd), (allGo place d i r).h.length ≤ r.h.length + d ∧ (allGo place d i r).b = r.b ∧ (allGo place d i r).s = r.s ∧ (allGo place d i r).y = r.y ∧ (allGo place d i r).l = r.l ∧ (allGo place d i r).g = r.g
  | 0, i, r => ⟨Nat.le_refl _, rfl, rfl, rfl, rfl, rfl⟩
  | d + 1, i, r => by
    unfold allGo
    split
    · obtain ⟨h1, h2, h3, h4, h5, h6⟩ := allGo_in place d (i + 1) (allOne place i r)
      refine ⟨?_, h2, h3, h4, h5, h6⟩
      have : (allOne place i r).h.length = r.h.length + 1 := by simp [allOne]
      omega
    · exact ⟨by omega, rfl, rfl, rfl, rfl, rfl⟩
theorem allGo_bad (place : Int) (d i : Nat) (r : Rd) (h : r.e ≠ 0) : allGo place d i r = r := by
  cases d with
  | zero => rfl
  | succ d => rw [allGo, if_neg h]
theorem allF_in {b : List (List D)} (hb : bytesIn b = true) : (allF (rd0 b)).h.length ≤ 100 ∧ (allF (rd0 b)).b = b ∧ (allF (rd0 b)).s = [] ∧ (allF (rd0 b)).y = [] ∧ (allF (rd0 b)).l = [] ∧ (allF (rd0 b)).g = [] := by
  have h2 := getV2 hb
  obtain ⟨a1, a2, a3, a4, a5, a6⟩ := allGo_in (getV b 40 8) (getV b 60 2).toNat 0 { rd0 b with e := allE b 0 }
  refine ⟨?_, a2, a3, a4, a5, a6⟩
  by_cases hm : getV b 60 2 > 100
  · have he : allE b 0 ≠ 0 := by
      unfold allE
      split
      · decide
      · first | decide | (rw [if_pos hm]; decide)
    show (allGo (getV b 40 8) (getV b 60 2).toNat 0 { rd0 b with e := allE b 0 }).h.length ≤ 100
    rw [allGo_bad _ _ _ _ he]
    exact Nat.zero_le _
  · have : ({ rd0 b with e := allE b 0 } : Rd).h.length = 0 := rfl
    show (allGo (getV b 40 8) (getV b 60 2).toNat 0 { rd0 b with e := allE b 0 }).h.length ≤ 100
    omega
structure RI (k : Nat) (b h : List (List D)) (r : Rd) : Prop where
  b : r.b = b
  h : r.h = h
  s : r.s.length ≤ k
  y : r.y.length ≤ 2731 * k
  l : r.l.length ≤ 2731 * k
  g : r.g.length ≤ k
  rel : relsOk r.l = true
  pos : posOk 1 r.y = true
  gl : lensOk 1 65536 r.g = true
theorem grpR_len (x : List (List D)) : ∀ (d : Nat) (a e : Int) (l : List (List D)), (grpR x d a e l).1.length ≤ l.length + d
  | 0, a, e, l => Nat.le_refl _
  | d + 1, a, e, l => by
    unfold grpR
    split
    · have := grpR_len x d (a + 4) (numE x a 4 e) (l ++ [[.int (getV x a 4)]])
      rw [List.length_append] at this
      simp only [List.length_cons, List.length_nil] at this
      omega
    · show l.length ≤ _; omega
theorem wrap_u8 (n : Int) : 0 ≤ IntKind.wrap .u8 n ∧ IntKind.wrap .u8 n ≤ 255 := by
  simp [IntKind.wrap, IntKind.bits, IntKind.signed]
  omega
theorem relOne_ok (x : List (List D)) (i : Int) : (decide (0 ≤ rI (relOne x i) 2) && decide (rI (relOne x i) 2 ≤ 255)) = true := by
  have h := wrap_u8 (getV x 8 4)
  have e : rI (relOne x i) 2 = okI (relRe x) (relRk x) := rfl
  rw [e]
  unfold okI
  split
  · exact andT (decT h.1) (decT h.2)
  · rfl
theorem all_snoc {α : Type} {p : α → Bool} {l : List α} {a : α} (h : l.all p = true) (ha : p a = true) : (l ++ [a]).all p = true := by
  rw [List.all_append, h, List.all_cons, ha]; rfl
theorem relR_in (info : Int) : ∀ (d : Nat) (x : List (List D)) (e : Int) (l : List (List D)), relsOk l = true → relsOk (relR info d x e l).1 = true ∧ 24 * (relR info d x e l).1.length ≤ 24 * l.length + x.length
  | 0, x, e, l, h => ⟨h, Nat.le_add_right _ _⟩
  | d + 1, x, e, l, h => by
    unfold relR
    split
    · rename_i hx
      have := relR_in info d (x.drop 24) (if relRe (x.take 24) ≠ 0 then relRe (x.take 24) else e) (l ++ [relOne (x.take 24) info]) (all_snoc h (relOne_ok _ _))
      rw [List.length_append, List.length_drop] at this
      simp only [List.length_cons, List.length_nil] at this
      exact ⟨this.1, by omega⟩
    · exact ⟨h, by show 24 * l.length ≤ _; omega⟩
theorem symRe_len {x : List (List D)} (h : symRe x = 0) : x.length = 24 := by
  unfold symRe at h
  split at h
  · cases h
  · rename_i hn; simpa using hn
theorem symRb_pos {x : List (List D)} (hx : bytesIn x = true) (h : symRe x = 0) : 0 ≤ symRb x := by
  have := bytesIn_cell hx (i := 4) (by rw [symRe_len h]; omega)
  exact Int.fdiv_nonneg this.1 (by omega)
theorem symR_in (x : List (List D)) (hx : bytesIn x = true) : ∀ (d : Nat) (a : Int) (r : Rd), posOk 1 r.y = true → (symR x d a r).b = r.b ∧ (symR x d a r).h = r.h ∧ (symR x d a r).s = r.s ∧ (symR x d a r).l = r.l ∧ (symR x d a r).g = r.g ∧ posOk 1 (symR x d a r).y = true ∧ (24 * ((symR x d a r).y.length : Int) ≤ 24 * r.y.length ∨ 24 * ((symR x d a r).y.length : Int) ≤ 24 * r.y.length + (x.length - a))
  | 0, a, r, h => ⟨rfl, rfl, rfl, rfl, rfl, h, .inl (Int.le_refl _)⟩
  | d + 1, a, r, h => by
    unfold symR
    split
    · rename_i hc
      split
      · exact ⟨rfl, rfl, rfl, rfl, rfl, h, .inl (Int.le_refl _)⟩
      · rename_i hr
        have hr : symRe (cut x a (a + 24)) = 0 := by simpa using hr
        have hp := symRb_pos (bytesIn_cut hx _ _) hr
        obtain ⟨h1, h2, h3, h4, h5, h6, h7⟩ := symR_in x hx d (a + 24) { r with y := r.y ++ [symOne (cut x a (a + 24)) (nameS r (r.h.length - 2) (getV (cut x a (a + 24)) 0 4))], e := nameE r (r.h.length - 2) (getV (cut x a (a + 24)) 0 4) } (all_snoc h (decT hp))
        refine ⟨h1, h2, h3, h4, h5, h6, .inr ?_⟩
        simp only [List.length_append, List.length_cons, List.length_nil] at h7
        omega
    · exact ⟨rfl, rfl, rfl, rfl, rfl, h, .inl (Int.le_refl _)⟩
theorem part_in {b h : List (List D)} (hb : bytesIn b = true) (hl : b.length ≤ 65536) {k : Nat} {r : Rd} (hr : RI k b h r) (hd : Hd) : RI (k + 1) b h (partR r hd) := by
  have hX : bytesIn (partX r hd) = true := bytesIn_cutV (by rw [hr.b]; exact hb) _ _ _
  have hXl : (partX r hd).length ≤ 65536 := Nat.le_trans (cutV_len _ _ _) (by rw [hr.b]; exact hl)
  have := hr.s; have := hr.y; have := hr.l; have := hr.g
  unfold partR
  split
  · exact ⟨hr.b, hr.h, by simp only [List.length_append, List.length_cons, List.length_nil]; omega, Nat.le_trans hr.y (by omega), Nat.le_trans hr.l (by omega), Nat.le_trans hr.g (by omega), hr.rel, hr.pos, hr.gl⟩
  · split
    · exact ⟨hr.b, hr.h, by simp only [List.length_append, List.length_cons, List.length_nil]; omega, Nat.le_trans hr.y (by omega), Nat.le_trans hr.l (by omega), Nat.le_trans hr.g (by omega), hr.rel, hr.pos, hr.gl⟩
    · split
      · refine ⟨hr.b, hr.h, Nat.le_trans hr.s (by omega), Nat.le_trans hr.y (by omega), Nat.le_trans hr.l (by omega), by simp only [List.length_append, List.length_cons, List.length_nil]; omega, hr.rel, hr.pos, all_snoc hr.gl (decT ?_)⟩
        have := grpR_len (partX r hd) (partX r hd).length 4 (partC r hd).e []
        simp only [List.length_nil] at this
        show (grpR (partX r hd) (partX r hd).length 4 (partC r hd).e []).1.length ≤ 65536
        omega
      · split
        · obtain ⟨h1, h2⟩ := relR_in hd.info (partX r hd).length (partX r hd) (partC r hd).e r.l hr.rel
          exact ⟨hr.b, hr.h, Nat.le_trans hr.s (by omega), Nat.le_trans hr.y (by omega), by show (relR hd.info (partX r hd).length (partX r hd) (partC r hd).e r.l).1.length ≤ _; omega, Nat.le_trans hr.g (by omega), h1, hr.pos, hr.gl⟩
        · split
          · obtain ⟨h1, h2, h3, h4, h5, h6, h7⟩ := symR_in (partX r hd) hX (partX r hd).length 24 (partC r hd) hr.pos
            have h7 : 24 * ((symR (partX r hd) (partX r hd).length 24 (partC r hd)).y.length : Int) ≤ 24 * r.y.length ∨ 24 * ((symR (partX r hd) (partX r hd).length 24 (partC r hd)).y.length : Int) ≤ 24 * r.y.length + ((partX r hd).length - 24) := h7
            exact ⟨h1.trans hr.b, h2.trans hr.h, by rw [h3]; exact Nat.le_trans hr.s (by omega), by omega, by rw [h4]; exact Nat.le_trans hr.l (by omega), by rw [h5]; exact Nat.le_trans hr.g (by omega), by rw [h4]; exact hr.rel, h6, by rw [h5]; exact hr.gl⟩
          · exact ⟨hr.b, hr.h, Nat.le_trans hr.s (by omega), Nat.le_trans hr.y (by omega), Nat.le_trans hr.l (by omega), Nat.le_trans hr.g (by omega), hr.rel, hr.pos, hr.gl⟩
theorem parts_in {b h : List (List D)} (hb : bytesIn b = true) (hl : b.length ≤ 65536) : ∀ (d i : Nat) (r : Rd), RI i b h r → ∃ k, k ≤ i + d ∧ RI k b h (partsGo d i r)
  | 0, i, r, hr => ⟨i, Nat.le_refl _, hr⟩
  | d + 1, i, r, hr => by
    unfold partsGo
    split
    · obtain ⟨k, h1, h2⟩ := parts_in hb hl d (i + 1) _ (part_in hb hl hr (hdRow (r.h.getD i [])))
      exact ⟨k, by omega, h2⟩
    · exact ⟨i, by omega, hr⟩
theorem rd_start {b : List (List D)} (hb : bytesIn b = true) : RI 1 b (allF (rd0 b)).h (allF (rd0 b)) := by
  obtain ⟨h1, h2, h3, h4, h5, h6⟩ := allF_in hb
  exact ⟨h2, rfl, by rw [h3]; simp, by rw [h4]; simp, by rw [h5]; simp, by rw [h6]; simp, by rw [h5]; rfl, by rw [h4]; rfl, by rw [h6]; rfl⟩
theorem rd_end {b : List (List D)} (hb : bytesIn b = true) (hl : b.length ≤ 65536) : ∃ k, k ≤ 101 ∧ RI k b (allF (rd0 b)).h (readF b) := by
  obtain ⟨k, h1, h2⟩ := parts_in hb hl (allF (rd0 b)).h.length 1 _ (rd_start hb)
  have := (allF_in hb).1
  exact ⟨k, by omega, h2⟩
theorem lens_mono {j n m : Nat} {G : List (List D)} (h : lensOk j n G = true) (hm : n ≤ m) : lensOk j m G = true := List.all_eq_true.2 fun e he => by
  have := List.all_eq_true.1 h e he
  simp only [decide_eq_true_eq] at this ⊢
  omega
theorem rd_pre {k : Nat} {b h : List (List D)} {r : Rd} (hr : RI k b h r) (hk : k ≤ 101) : (decide (r.s.length ≤ 1048576) && decide (r.y.length ≤ 1048576) && relsOk r.l && decide (r.g.length ≤ 1048576) && lensOk 1 1048576 r.g && (!chkB r.s r.y r.l r.g || wrOk r.s r.y r.l r.g)) = true := by
  have := hr.s; have := hr.y; have := hr.g
  refine andT (andT (andT (andT (andT (decT (by omega)) (decT (by omega))) hr.rel) (decT (by omega))) (lens_mono hr.gl (by omega))) ?_
  cases hc : chkB r.s r.y r.l r.g with
  | false => rfl
  | true => rw [wrOk_of hc hr.pos]; rfl
end Go.Proofs.Ytkcopbnaleiocaa.Ev
namespace Go.Proofs.Ytkcopbnaleiocaa.Ev
open Go
set_option linter.unusedVariables false
noncomputable def rddk0 : List T := [.code (sub (bodyOf Try.f37) [])]
def rdds0 (t0 : List (List D)) : St := ⟨[(0, .arr u8s t0)], []⟩
noncomputable def rddk1 : List T := [.code (sub (bodyOf Try.f37) [1, 1, 1, 1, 0, 1, 0, 0]), .lp (sub (bodyOf Try.f37) [1, 1, 1, 1, 0, 1, 0, 0]), .blk 0, .code (sub (bodyOf Try.f37) [1, 1, 1, 1, 1])]
def rdds1 (t0 : List (List D)) (t5 : Int) (b10_0 b10_1 b10_2 b10_3 b10_4 b10_5 : List (List D)) (b10_6 : Int) : St := ⟨[(0, .arr u8s t0), (2, .ptr (.loc 2) 0), (4, .ptr (.loc 10) 0), (5, .val (.int .i64 t5))], [(.loc 2, [.val nilSlice, .val nilSlice, .val nilSlice, .val nilSlice]), (.loc 10, [.arr u8s b10_0, .own hdT b10_1, .own secC b10_2, .own symC b10_3, .own relC b10_4, .own grpC b10_5, .val (.int .i64 b10_6)])]⟩
noncomputable def rddt0 (t0 : List (List D)) : Tr := (.ask (decide ((↑(List.length t0) : Int) > (65536 : Int)))
  (.ret (.tup [.agg [.val nilSlice, .val nilSlice, .val nilSlice, .val nilSlice], .val (.int .i64 ((8 : Int)))], []))
  (.ask (pAll [handed [Key.loc (10 : Nat)] (V.ptr (Key.loc (10 : Nat)) (0 : Nat))] (nilOs [BK.arr u8s, BK.own hdT, BK.own secC, BK.own symC, BK.own relC, BK.own grpC, BK.no] [V.arr u8s t0, V.val (Value.slice none (0 : Nat) (0 : Nat)), V.val (Value.slice none (0 : Nat) (0 : Nat)), V.val (Value.slice none (0 : Nat) (0 : Nat)), V.val (Value.slice none (0 : Nat) (0 : Nat)), V.val (Value.slice none (0 : Nat) (0 : Nat)), V.val (.int .i64 (0 : Int))]))
  (.go 0 rddk1 (rdds1 (t0) ((1 : Int)) (Rd.b (allF { b := t0, h := [], s := [], y := [], l := [], g := [], e := (0 : Int) })) (Rd.h (allF { b := t0, h := [], s := [], y := [], l := [], g := [], e := (0 : Int) })) (Rd.s (allF { b := t0, h := [], s := [], y := [], l := [], g := [], e := (0 : Int) })) (Rd.y (allF { b := t0, h := [], s := [], y := [], l := [], g := [], e := (0 : Int) })) (Rd.l (allF { b := t0, h := [], s := [], y := [], l := [], g := [], e := (0 : Int) })) (Rd.g (allF { b := t0, h := [], s := [], y := [], l := [], g := [], e := (0 : Int) })) (Rd.e (allF { b := t0, h := [], s := [], y := [], l := [], g := [], e := (0 : Int) }))))
  .fail))
set_option maxRecDepth 100000 in
theorem rddp0 (n : Nat) (t0 : List (List D)) : exec es5 (n + 33) (37, Try.f37, 0) rddk0 (rdds0 t0) = Tr.val es5 (37, Try.f37, 0) n (rddt0 t0) := by kernel_rfl
noncomputable def rddt1 (t0 : List (List D)) (t5 : Int) (b10_0 b10_1 b10_2 b10_3 b10_4 b10_5 : List (List D)) (b10_6 : Int) : Tr := (.ask (decide (t5 < (↑(List.length b10_1) : Int)))
  (.ask (b10_6 == (0 : Int))
  (.ask (decide ((0 : Int) ≤ t5) && decide (t5 < (↑(List.length b10_1) : Int)))
  (.ask (Info.pre es5 (93 : Nat) [handed [Key.loc (10 : Nat)] (V.ptr (Key.loc (10 : Nat)) (0 : Nat)), handed [Key.loc (10 : Nat)] (V.agg [V.val (.int .i64 (cellI b10_1 (Int.toNat t5) (0 : Nat))), V.val (.int .i64 (cellI b10_1 (Int.toNat t5) (1 : Nat))), V.val (.int .i64 (cellI b10_1 (Int.toNat t5) (2 : Nat))), V.val (.int .i64 (cellI b10_1 (Int.toNat t5) (3 : Nat))), V.val (.int .i64 (cellI b10_1 (Int.toNat t5) (4 : Nat))), V.val (.int .i64 (cellI b10_1 (Int.toNat t5) (5 : Nat))), V.val (.int .i64 (cellI b10_1 (Int.toNat t5) (6 : Nat))), V.val (.int .i64 (cellI b10_1 (Int.toNat t5) (7 : Nat))), V.val (.int .i64 (cellI b10_1 (Int.toNat t5) (8 : Nat))), V.val (.int .i64 (cellI b10_1 (Int.toNat t5) (9 : Nat)))])] [[V.arr u8s b10_0, V.own hdT b10_1, V.own secC b10_2, V.own symC b10_3, V.own relC b10_4, V.own grpC b10_5, V.val (.int .i64 b10_6)]])
  (.go 28 rddk1 (rdds1 (t0) (IntKind.wrap .i64 (t5 + (1 : Int))) (Rd.b (partR { b := b10_0, h := b10_1, s := b10_2, y := b10_3, l := b10_4, g := b10_5, e := b10_6 } { name := cellI b10_1 (Int.toNat t5) (0 : Nat), type := cellI b10_1 (Int.toNat t5) (1 : Nat), flags := cellI b10_1 (Int.toNat t5) (2 : Nat), addr := cellI b10_1 (Int.toNat t5) (3 : Nat), offset := cellI b10_1 (Int.toNat t5) (4 : Nat), size := cellI b10_1 (Int.toNat t5) (5 : Nat), link := cellI b10_1 (Int.toNat t5) (6 : Nat), info := cellI b10_1 (Int.toNat t5) (7 : Nat), align := cellI b10_1 (Int.toNat t5) (8 : Nat), entry := cellI b10_1 (Int.toNat t5) (9 : Nat) })) (Rd.h (partR { b := b10_0, h := b10_1, s := b10_2, y := b10_3, l := b10_4, g := b10_5, e := b10_6 } { name := cellI b10_1 (Int.toNat t5) (0 : Nat), type := cellI b10_1 (Int.toNat t5) (1 : Nat), flags := cellI b10_1 (Int.toNat t5) (2 : Nat), addr := cellI b10_1 (Int.toNat t5) (3 : Nat), offset := cellI b10_1 (Int.toNat t5) (4 : Nat), size := cellI b10_1 (Int.toNat t5) (5 : Nat), link := cellI b10_1 (Int.toNat t5) (6 : Nat), info := cellI b10_1 (Int.toNat t5) (7 : Nat), align := cellI b10_1 (Int.toNat t5) (8 : Nat), entry := cellI b10_1 (Int.toNat t5) (9 : Nat) })) (Rd.s (partR { b := b10_0, h := b10_1, s := b10_2, y := b10_3, l := b10_4, g := b10_5, e := b10_6 } { name := cellI b10_1 (Int.toNat t5) (0 : Nat), type := cellI b10_1 (Int.toNat t5) (1 : Nat), flags := cellI b10_1 (Int.toNat t5) (2 : Nat), addr := cellI b10_1 (Int.toNat t5) (3 : Nat), offset := cellI b10_1 (Int.toNat t5) (4 : Nat), size := cellI b10_1 (Int.toNat t5) (5 : Nat), link := cellI b10_1 (Int.toNat t5) (6 : Nat), info := cellI b10_1 (Int.toNat t5) (7 : Nat), align := cellI b10_1 (Int.toNat t5) (8 : Nat), entry := cellI b10_1 (Int.toNat t5) (9 : Nat) })) (Rd.y (partR { b := b10_0, h := b10_1, s := b10_2, y := b10_3, l := b10_4, g := b10_5, e := b10_6 } { name := cellI b10_1 (Int.toNat t5) (0 : Nat), type := cellI b10_1 (Int.toNat t5) (1 : Nat), flags := cellI b10_1 (Int.toNat t5) (2 : Nat), addr := cellI b10_1 (Int.toNat t5) (3 : Nat), offset := cellI b10_1 (Int.toNat t5) (4 : Nat), size := cellI b10_1 (Int.toNat t5) (5 : Nat), link := cellI b10_1 (Int.toNat t5) (6 : Nat), info := cellI b10_1 (Int.toNat t5) (7 : Nat), align := cellI b10_1 (Int.toNat t5) (8 : Nat), entry := cellI b10_1 (Int.toNat t5) (9 : Nat) })) (Rd.l (partR { b := b10_0, h := b10_1, s := b10_2, y := b10_3, l := b10_4, g := b10_5, e := b10_6 } { name := cellI b10_1 (Int.toNat t5) (0 : Nat), type := cellI b10_1 (Int.toNat t5) (1 : Nat), flags := cellI b10_1 (Int.toNat t5) (2 : Nat), addr := cellI b10_1 (Int.toNat t5) (3 : Nat), offset := cellI b10_1 (Int.toNat t5) (4 : Nat), size := cellI b10_1 (Int.toNat t5) (5 : Nat), link := cellI b10_1 (Int.toNat t5) (6 : Nat), info := cellI b10_1 (Int.toNat t5) (7 : Nat), align := cellI b10_1 (Int.toNat t5) (8 : Nat), entry := cellI b10_1 (Int.toNat t5) (9 : Nat) })) (Rd.g (partR { b := b10_0, h := b10_1, s := b10_2, y := b10_3, l := b10_4, g := b10_5, e := b10_6 } { name := cellI b10_1 (Int.toNat t5) (0 : Nat), type := cellI b10_1 (Int.toNat t5) (1 : Nat), flags := cellI b10_1 (Int.toNat t5) (2 : Nat), addr := cellI b10_1 (Int.toNat t5) (3 : Nat), offset := cellI b10_1 (Int.toNat t5) (4 : Nat), size := cellI b10_1 (Int.toNat t5) (5 : Nat), link := cellI b10_1 (Int.toNat t5) (6 : Nat), info := cellI b10_1 (Int.toNat t5) (7 : Nat), align := cellI b10_1 (Int.toNat t5) (8 : Nat), entry := cellI b10_1 (Int.toNat t5) (9 : Nat) })) (Rd.e (partR { b := b10_0, h := b10_1, s := b10_2, y := b10_3, l := b10_4, g := b10_5, e := b10_6 } { name := cellI b10_1 (Int.toNat t5) (0 : Nat), type := cellI b10_1 (Int.toNat t5) (1 : Nat), flags := cellI b10_1 (Int.toNat t5) (2 : Nat), addr := cellI b10_1 (Int.toNat t5) (3 : Nat), offset := cellI b10_1 (Int.toNat t5) (4 : Nat), size := cellI b10_1 (Int.toNat t5) (5 : Nat), link := cellI b10_1 (Int.toNat t5) (6 : Nat), info := cellI b10_1 (Int.toNat t5) (7 : Nat), align := cellI b10_1 (Int.toNat t5) (8 : Nat), entry := cellI b10_1 (Int.toNat t5) (9 : Nat) }))))
  .fail)
  .fail)
  (.ask (b10_6 != (0 : Int))
  (.ret (.tup [.agg [.val nilSlice, .val nilSlice, .val nilSlice, .val nilSlice], .val (.int .i64 ((8 : Int)))], []))
  (.ask (pWrt [normV (.ag [some secC, some symC, some relC, some grpC]) (handed [] (.agg [V.arr secC b10_2, V.arr symC b10_3, V.arr relC b10_4, V.arr grpC b10_5]))])
  (.ask (wrE b10_2 b10_3 b10_4 b10_5 != (0 : Int))
  (.ret (.tup [.agg [.val nilSlice, .val nilSlice, .val nilSlice, .val nilSlice], .val (.int .i64 ((8 : Int)))], []))
  (.ask (!sameB (wrV b10_2 b10_3 b10_4 b10_5) t0)
  (.ret (.tup [.agg [.val nilSlice, .val nilSlice, .val nilSlice, .val nilSlice], .val (.int .i64 ((8 : Int)))], []))
  (.ret (.tup [.agg [.arr secC (b10_2), .arr symC (b10_3), .arr relC (b10_4), .arr grpC (b10_5)], V.val (.int .i64 (0 : Int))], []))))
  .fail)))
  (.ask (b10_6 != (0 : Int))
  (.ret (.tup [.agg [.val nilSlice, .val nilSlice, .val nilSlice, .val nilSlice], .val (.int .i64 ((8 : Int)))], []))
  (.ask (pWrt [normV (.ag [some secC, some symC, some relC, some grpC]) (handed [] (.agg [V.arr secC b10_2, V.arr symC b10_3, V.arr relC b10_4, V.arr grpC b10_5]))])
  (.ask (wrE b10_2 b10_3 b10_4 b10_5 != (0 : Int))
  (.ret (.tup [.agg [.val nilSlice, .val nilSlice, .val nilSlice, .val nilSlice], .val (.int .i64 ((8 : Int)))], []))
  (.ask (!sameB (wrV b10_2 b10_3 b10_4 b10_5) t0)
  (.ret (.tup [.agg [.val nilSlice, .val nilSlice, .val nilSlice, .val nilSlice], .val (.int .i64 ((8 : Int)))], []))
  (.ret (.tup [.agg [.arr secC (b10_2), .arr symC (b10_3), .arr relC (b10_4), .arr grpC (b10_5)], V.val (.int .i64 (0 : Int))], []))))
  .fail)))
set_option maxRecDepth 100000 in
theorem rddp1 (n : Nat) (t0 : List (List D)) (t5 : Int) (b10_0 b10_1 b10_2 b10_3 b10_4 b10_5 : List (List D)) (b10_6 : Int) : exec es5 (n + 68) (37, Try.f37, 0) rddk1 (rdds1 t0 t5 b10_0 b10_1 b10_2 b10_3 b10_4 b10_5 b10_6) = Tr.val es5 (37, Try.f37, 0) n (rddt1 t0 t5 b10_0 b10_1 b10_2 b10_3 b10_4 b10_5 b10_6) := by kernel_rfl
noncomputable def isfk0 : List T := [.code (sub (bodyOf Try.f38) [])]
def isfs0 (t0 : List (List D)) : St := ⟨[(0, .arr u8s t0)], []⟩
noncomputable def isft0 (t0 : List (List D)) : Tr := (.ret (.val (.bool (hasPB t0 [[D.int (127 : Int)], [D.int (69 : Int)], [D.int (76 : Int)], [D.int (70 : Int)]])), []))
set_option maxRecDepth 100000 in
theorem isfp0 (n : Nat) (t0 : List (List D)) : exec es5 (n + 13) (38, Try.f38, 0) isfk0 (isfs0 t0) = Tr.val es5 (38, Try.f38, 0) n (isft0 t0) := by kernel_rfl
end Go.Proofs.Ytkcopbnaleiocaa.Ev
namespace Go.Proofs.Ytkcopbnaleiocaa.Ev
open Go
set_option linter.unusedVariables false
set_option linter.unusedSimpArgs false
noncomputable def rdV (b : List (List D)) : V := .tup [.agg [.arr secC (readO b (readF b).s), .arr symC (readO b (readF b).y), .arr relC (readO b (readF b).l), .arr grpC (readO b (readF b).g)], .val (.int .i64 (readE b))]
theorem rd_bad {b : List (List D)} (h : readE b = 8) : Is (rdV b) (.tup [.agg [.val nilSlice, .val nilSlice, .val nilSlice, .val nilSlice], .val (.int .i64 8)], []) := by
  have h0 : ∀ x, readO b x = [] := fun x => by rw [readO, h]; rfl
  unfold rdV
  rw [h, h0, h0, h0, h0]
  refine is_tup2 (.agg rfl fun i v v' hv hv' => ?_) (rx_of rfl)
  match i with
  | 0 => simp at hv hv'; subst hv; subst hv'; exact .nilArr _
  | 1 => simp at hv hv'; subst hv; subst hv'; exact .nilArr _
  | 2 => simp at hv hv'; subst hv; subst hv'; exact .nilArr _
  | 3 => simp at hv hv'; subst hv; subst hv'; exact .nilArr _
  | i + 4 => simp at hv
theorem rd_good {b : List (List D)} (h : readE b = 0) : Is (rdV b) (.tup [.agg [.arr secC (readF b).s, .arr symC (readF b).y, .arr relC (readF b).l, .arr grpC (readF b).g], .val (.int .i64 0)], []) := by
  have h0 : ∀ x, readO b x = x := fun x => by rw [readO, if_pos h]
  unfold rdV
  rw [h, h0, h0, h0, h0]
  exact is_refl rfl
theorem runs_rdd {b h : List (List D)} (hb : bytesIn b = true) (hl : b.length ≤ 65536) (hh : h.length ≤ 100) : ∀ (d i : Nat) (r : Rd), RI i b h r → partsGo d i r = readF b → h.length ≤ i + d → 1 ≤ i → i ≤ 101 →
    Runs es5 (37, Try.f37, 0) rddk1 (rdds1 b (i : Nat) r.b r.h r.s r.y r.l r.g r.e) (Is (rdV b)) := by
  intro d
  induction d with
  | zero =>
    intro i r hr hF hd h1 h2
    refine Runs.of (fun q => rddp1 q b _ r.b r.h r.s r.y r.l r.g r.e) ?_
    unfold rddt1
    have hrh := hr.h
    have hF : r = readF b := hF
    refine askF (decF (by rw [hrh]; omega)) ?_
    subst hF
    refine ask (fun he => rd_bad ?_) (fun he => askT (show _ = true from rd_pre hr h2) (ask (fun hw => rd_bad ?_) (fun hw => ask (fun hs => rd_bad ?_) (fun hs => rd_good ?_))))
    · rw [readE, if_neg (by omega), if_pos (bne_iff_ne.1 he)]
    · have he : (readF b).e = 0 := by simpa [bne] using he
      rw [readE, if_neg (by omega), if_neg (by simp [he]), if_pos (bne_iff_ne.1 hw)]
    · have he : (readF b).e = 0 := by simpa [bne] using he
      have hw : wrE (readF b).s (readF b).y (readF b).l (readF b).g = 0 := by simpa [bne] using hw
      rw [readE, if_neg (by omega), if_neg (by simp [he]), if_neg (by simp [hw]), if_neg (by rw [notT hs]; simp)]
    · have he : (readF b).e = 0 := by simpa [bne] using he
      have hw : wrE (readF b).s (readF b).y (readF b).l (readF b).g = 0 := by simpa [bne] using hw
      rw [readE, if_neg (by omega), if_neg (by simp [he]), if_neg (by simp [hw]), if_pos (notF hs)]
  | succ d ih =>
    intro i r hr hF hd h1 h2
    refine Runs.of (fun q => rddp1 q b _ r.b r.h r.s r.y r.l r.g r.e) ?_
    unfold rddt1
    have hrh := hr.h
    refine ask (fun ha => ask (fun he => ?_) (fun hne => ?_)) (fun hna => ?_)
    · have ha := of_decide_eq_true ha
      rw [hrh] at ha
      have he : r.e = 0 := beq_iff_eq.1 he
      have hw : IntKind.wrap .i64 ((i : Int) + 1) = ((i + 1 : Nat) : Int) := by rw [wrap64 (by omega) (by omega)]; omega
      simp only [hw, Int.toNat_natCast]
      have hF' : partsGo d (i + 1) (partR r (hdRow (r.h.getD i []))) = readF b := by
        rw [← hF]
        conv => rhs; unfold partsGo
        rw [if_pos ⟨by rw [hrh]; omega, he⟩]
      have s1 := hr.s; have s2 := hr.y; have s3 := hr.l; have s4 := hr.g
      have hrb := hr.b
      have big : rdBig r = true := andT (andT (andT (andT (andT (andT (andT (by rw [hrb]; exact hb) (decT (by rw [hrb]; omega))) (decT (by rw [hrh]; omega))) (decT (by rw [hrh]; omega))) (decT (by omega))) (decT (by omega))) (decT (by omega))) (decT (by omega))
      refine askT (andT (decT (by omega)) (decT (by rw [hrh]; omega))) (askT (show rdBig r = true from big) ?_)
      exact ih (i + 1) (partR r (hdRow (r.h.getD i []))) (part_in hb hl hr _) hF' (by omega) (by omega) (by omega)
    · have he : r.e ≠ 0 := beq_eq_false_iff_ne.1 hne
      have hF : r = readF b := by
        rw [← hF]; unfold partsGo; rw [if_neg (fun hc => he hc.2)]
      subst hF
      refine ask (fun he => rd_bad ?_) (fun he => askT (show _ = true from rd_pre hr h2) (ask (fun hw => rd_bad ?_) (fun hw => ask (fun hs => rd_bad ?_) (fun hs => rd_good ?_))))
      · rw [readE, if_neg (by omega), if_pos (bne_iff_ne.1 he)]
      · have he : (readF b).e = 0 := by simpa [bne] using he
        rw [readE, if_neg (by omega), if_neg (by simp [he]), if_pos (bne_iff_ne.1 hw)]
      · have he : (readF b).e = 0 := by simpa [bne] using he
        have hw : wrE (readF b).s (readF b).y (readF b).l (readF b).g = 0 := by simpa [bne] using hw
        rw [readE, if_neg (by omega), if_neg (by simp [he]), if_neg (by simp [hw]), if_neg (by rw [notT hs]; simp)]
      · have he : (readF b).e = 0 := by simpa [bne] using he
        have hw : wrE (readF b).s (readF b).y (readF b).l (readF b).g = 0 := by simpa [bne] using hw
        rw [readE, if_neg (by omega), if_neg (by simp [he]), if_neg (by simp [hw]), if_pos (notF hs)]
    · have ha := of_decide_eq_false hna
      have hF : r = readF b := by
        rw [← hF]; unfold partsGo; rw [if_neg (fun hc => ha (by omega))]
      subst hF
      refine ask (fun he => rd_bad ?_) (fun he => askT (show _ = true from rd_pre hr h2) (ask (fun hw => rd_bad ?_) (fun hw => ask (fun hs => rd_bad ?_) (fun hs => rd_good ?_))))
      · rw [readE, if_neg (by omega), if_pos (bne_iff_ne.1 he)]
      · have he : (readF b).e = 0 := by simpa [bne] using he
        rw [readE, if_neg (by omega), if_neg (by simp [he]), if_pos (bne_iff_ne.1 hw)]
      · have he : (readF b).e = 0 := by simpa [bne] using he
        have hw : wrE (readF b).s (readF b).y (readF b).l (readF b).g = 0 := by simpa [bne] using hw
        rw [readE, if_neg (by omega), if_neg (by simp [he]), if_neg (by simp [hw]), if_neg (by rw [notT hs]; simp)]
      · have he : (readF b).e = 0 := by simpa [bne] using he
        have hw : wrE (readF b).s (readF b).y (readF b).l (readF b).g = 0 := by simpa [bne] using hw
        rw [readE, if_neg (by omega), if_neg (by simp [he]), if_neg (by simp [hw]), if_pos (notF hs)]
theorem con_rdd : ∀ vs v, pRead vs = true → gRead vs = some v → Contract Try.prog 37 vs [] (v, []) := by
  intro vs v hp h
  unfold gRead at h
  split at h <;> cases h
  rename_i b
  simp only [pRead, Bool.and_eq_true, decide_eq_true_eq] at hp
  refine el_con le5_ok Try.func37 (by kernel_rfl) (by kernel_rfl) rfl (by kernel_rfl) (by kernel_rfl) (Runs.of (fun q => rddp0 q b) ?_)
  unfold rddt0
  refine ask (fun hl => ?_) (fun hl => ?_)
  · have hl := of_decide_eq_true hl
    exact rd_bad (by rw [readE, if_pos (by omega)])
  · have hl := of_decide_eq_false hl
    have hh := (allF_in hp.1).1
    refine askT (show (bytesIn b && decide (b.length ≤ 1048576) && decide (([] : List (List D)).length ≤ 1024)) = true from andT (andT hp.1 (decT hp.2)) rfl) ?_
    exact runs_rdd hp.1 (by omega) hh (allF (rd0 b)).h.length 1 (allF (rd0 b)) (rd_start hp.1) rfl (by omega) (by omega) (by omega)
theorem con_isf : ∀ vs v, gIs vs = some v → Contract Try.prog 38 vs [] (v, []) := by
  intro vs v h
  unfold gIs at h
  split at h <;> cases h
  rename_i b
  refine el_con le5_ok Try.func38 (by kernel_rfl) (by kernel_rfl) rfl (by kernel_rfl) (by kernel_rfl) (Runs.of (fun q => isfp0 q b) ?_)
  unfold isft0
  exact is_refl rfl
theorem le6_ok : ExtAll Try.prog le6 := .normP con_rdd (.norm con_isf le5_ok)
end Go.Proofs.Ytkcopbnaleiocaa.Ev
namespace Go.Proofs.Ytkcopbnaleiocaa.Ev
open Go
set_option linter.unusedVariables false
noncomputable def lu1 : List (Nat × ExtF) := (36, exN [] gAlv) :: (29, exP nObj2 pSame gSame) :: (26, exN nObj gGrt) :: le6
noncomputable def lu1i : Info := infoL Try.prog lu1 ent keepOf
end Go.Proofs.Ytkcopbnaleiocaa.Ev
namespace Go.Proofs.Ytkcopbnaleiocaa.Ev
open Go
set_option linter.unusedVariables false
noncomputable def bckk0 : List T := [.code (sub (bodyOf Try.f11) [])]
def bcks0 (t0_0 t0_1 t0_2 t0_3 t1 : List (List D)) : St := ⟨[(0, .agg [.arr secC t0_0, .arr symC t0_1, .arr relC t0_2, .arr grpC t0_3]), (1, .arr u8s t1)], []⟩
noncomputable def bckt0 (t0_0 t0_1 t0_2 t0_3 t1 : List (List D)) : Tr := (.ask (greatB t0_0 t0_1 t0_2 t0_3)
  (.ret (.val (.bool (true)), []))
  (.ask (decide ((↑(List.length t1) : Int) > (70000 : Int)))
  (.ret (.val (.bool (true)), []))
  (.ask (pWrt [normV (.ag [some secC, some symC, some relC, some grpC]) (handed [] (.agg [V.arr secC t0_0, V.arr symC t0_1, V.arr relC t0_2, V.arr grpC t0_3]))])
  (.ask (wrE t0_0 t0_1 t0_2 t0_3 == (0 : Int))
  (.ask (Info.pre lu1i (37 : Nat) [handed [] (.own u8s (wrV t0_0 t0_1 t0_2 t0_3))] [])
  (.ask (readE (wrV t0_0 t0_1 t0_2 t0_3) != (0 : Int))
  (.ret (.val (.bool (false)), []))
  (.ask (Info.pre lu1i (29 : Nat) [handed [] (.agg [V.arr secC (readO (wrV t0_0 t0_1 t0_2 t0_3) (Rd.s (readF (wrV t0_0 t0_1 t0_2 t0_3)))), V.arr symC (readO (wrV t0_0 t0_1 t0_2 t0_3) (Rd.y (readF (wrV t0_0 t0_1 t0_2 t0_3)))), V.arr relC (readO (wrV t0_0 t0_1 t0_2 t0_3) (Rd.l (readF (wrV t0_0 t0_1 t0_2 t0_3)))), V.arr grpC (readO (wrV t0_0 t0_1 t0_2 t0_3) (Rd.g (readF (wrV t0_0 t0_1 t0_2 t0_3))))]), handed [] (.agg [V.arr secC t0_0, V.arr symC t0_1, V.arr relC t0_2, V.arr grpC t0_3])] [])
  (.ask (!sameO (readO (wrV t0_0 t0_1 t0_2 t0_3) (Rd.s (readF (wrV t0_0 t0_1 t0_2 t0_3)))) (readO (wrV t0_0 t0_1 t0_2 t0_3) (Rd.y (readF (wrV t0_0 t0_1 t0_2 t0_3)))) (readO (wrV t0_0 t0_1 t0_2 t0_3) (Rd.l (readF (wrV t0_0 t0_1 t0_2 t0_3)))) (readO (wrV t0_0 t0_1 t0_2 t0_3) (Rd.g (readF (wrV t0_0 t0_1 t0_2 t0_3)))) t0_0 t0_1 t0_2 t0_3)
  (.ret (.val (.bool (false)), []))
  (.ask (!hasPB (wrV t0_0 t0_1 t0_2 t0_3) [[D.int (127 : Int)], [D.int (69 : Int)], [D.int (76 : Int)], [D.int (70 : Int)]])
  (.ret (.val (.bool (false)), []))
  (.ask (Info.pre lu1i (37 : Nat) [handed [] (.arr u8s t1)] [])
  (.ask (readE t1 != (0 : Int))
  (.ask (readE t1 == (8 : Int))
  (.ask (Info.pre lu1i (29 : Nat) [handed [] (.agg [V.arr secC (readO t1 (Rd.s (readF t1))), V.arr symC (readO t1 (Rd.y (readF t1))), V.arr relC (readO t1 (Rd.l (readF t1))), V.arr grpC (readO t1 (Rd.g (readF t1)))]), handed [] (.agg [V.val (Value.slice none (0 : Nat) (0 : Nat)), V.val (Value.slice none (0 : Nat) (0 : Nat)), V.val (Value.slice none (0 : Nat) (0 : Nat)), V.val (Value.slice none (0 : Nat) (0 : Nat))])] [])
  (.ret (.val (.bool (sameO (readO t1 (Rd.s (readF t1))) (readO t1 (Rd.y (readF t1))) (readO t1 (Rd.l (readF t1))) (readO t1 (Rd.g (readF t1))) [] [] [] [])), []))
  .fail)
  (.ret (.val (.bool (false)), [])))
  (.ask (pWrt [normV (.ag [some secC, some symC, some relC, some grpC]) (handed [] (.agg [V.arr secC (readO t1 (Rd.s (readF t1))), V.arr symC (readO t1 (Rd.y (readF t1))), V.arr relC (readO t1 (Rd.l (readF t1))), V.arr grpC (readO t1 (Rd.g (readF t1)))]))])
  (.ask (wrE (readO t1 (Rd.s (readF t1))) (readO t1 (Rd.y (readF t1))) (readO t1 (Rd.l (readF t1))) (readO t1 (Rd.g (readF t1))) == (0 : Int))
  (.ask (ByteArray.toList (rowBytes (wrV (readO t1 (Rd.s (readF t1))) (readO t1 (Rd.y (readF t1))) (readO t1 (Rd.l (readF t1))) (readO t1 (Rd.g (readF t1))))) == ByteArray.toList (rowBytes t1))
  (.ask (pChkO [normV (.ag [some secC, some symC, some relC, some grpC]) (handed [] (.agg [V.arr secC (readO t1 (Rd.s (readF t1))), V.arr symC (readO t1 (Rd.y (readF t1))), V.arr relC (readO t1 (Rd.l (readF t1))), V.arr grpC (readO t1 (Rd.g (readF t1)))]))])
  (.ret (.val (.bool ((if chkB (readO t1 (Rd.s (readF t1))) (readO t1 (Rd.y (readF t1))) (readO t1 (Rd.l (readF t1))) (readO t1 (Rd.g (readF t1))) = true then (0 : Int) else (8 : Int)) == (0 : Int))), []))
  .fail)
  (.ret (.val (.bool (false)), [])))
  (.ret (.val (.bool (false)), [])))
  .fail))
  .fail)))
  .fail))
  .fail)
  (.ask (Info.pre lu1i (37 : Nat) [handed [] (.arr u8s t1)] [])
  (.ask (readE t1 != (0 : Int))
  (.ask (readE t1 == (8 : Int))
  (.ask (Info.pre lu1i (29 : Nat) [handed [] (.agg [V.arr secC (readO t1 (Rd.s (readF t1))), V.arr symC (readO t1 (Rd.y (readF t1))), V.arr relC (readO t1 (Rd.l (readF t1))), V.arr grpC (readO t1 (Rd.g (readF t1)))]), handed [] (.agg [V.val (Value.slice none (0 : Nat) (0 : Nat)), V.val (Value.slice none (0 : Nat) (0 : Nat)), V.val (Value.slice none (0 : Nat) (0 : Nat)), V.val (Value.slice none (0 : Nat) (0 : Nat))])] [])
  (.ret (.val (.bool (sameO (readO t1 (Rd.s (readF t1))) (readO t1 (Rd.y (readF t1))) (readO t1 (Rd.l (readF t1))) (readO t1 (Rd.g (readF t1))) [] [] [] [])), []))
  .fail)
  (.ret (.val (.bool (false)), [])))
  (.ask (pWrt [normV (.ag [some secC, some symC, some relC, some grpC]) (handed [] (.agg [V.arr secC (readO t1 (Rd.s (readF t1))), V.arr symC (readO t1 (Rd.y (readF t1))), V.arr relC (readO t1 (Rd.l (readF t1))), V.arr grpC (readO t1 (Rd.g (readF t1)))]))])
  (.ask (wrE (readO t1 (Rd.s (readF t1))) (readO t1 (Rd.y (readF t1))) (readO t1 (Rd.l (readF t1))) (readO t1 (Rd.g (readF t1))) == (0 : Int))
  (.ask (ByteArray.toList (rowBytes (wrV (readO t1 (Rd.s (readF t1))) (readO t1 (Rd.y (readF t1))) (readO t1 (Rd.l (readF t1))) (readO t1 (Rd.g (readF t1))))) == ByteArray.toList (rowBytes t1))
  (.ask (pChkO [normV (.ag [some secC, some symC, some relC, some grpC]) (handed [] (.agg [V.arr secC (readO t1 (Rd.s (readF t1))), V.arr symC (readO t1 (Rd.y (readF t1))), V.arr relC (readO t1 (Rd.l (readF t1))), V.arr grpC (readO t1 (Rd.g (readF t1)))]))])
  (.ret (.val (.bool ((if chkB (readO t1 (Rd.s (readF t1))) (readO t1 (Rd.y (readF t1))) (readO t1 (Rd.l (readF t1))) (readO t1 (Rd.g (readF t1))) = true then (0 : Int) else (8 : Int)) == (0 : Int))), []))
  .fail)
  (.ret (.val (.bool (false)), [])))
  (.ret (.val (.bool (false)), [])))
  .fail))
  .fail))
  .fail)))
set_option maxRecDepth 100000 in
theorem bckp0 (n : Nat) (t0_0 t0_1 t0_2 t0_3 t1 : List (List D)) : exec lu1i (n + 128) (11, Try.f11, 0) bckk0 (bcks0 t0_0 t0_1 t0_2 t0_3 t1) = Tr.val lu1i (11, Try.f11, 0) n (bckt0 t0_0 t0_1 t0_2 t0_3 t1) := by kernel_rfl
end Go.Proofs.Ytkcopbnaleiocaa.Ev
namespace Go.Proofs.Ytkcopbnaleiocaa.Ev
open Go
set_option maxRecDepth 100000 in
theorem alr_eval : call es3 200000 36 [] [] = some (.val (.bool true), []) := by kernel_rfl
theorem con_alr : ∀ vs v, gAlv vs = some v → Contract Try.prog 36 vs [] (v, []) := by
  intro vs v h
  unfold gAlv at h
  split at h <;> cases h
  exact call_contract (el_info le3) (el_ext le3_ok) alr_eval
end Go.Proofs.Ytkcopbnaleiocaa.Ev
