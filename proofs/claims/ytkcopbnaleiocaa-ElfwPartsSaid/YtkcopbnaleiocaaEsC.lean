/- A reader reads its heads: that the function computes what XEsD says. -/
import Derived.Test.YtkcopbnaleiocaaEsP
namespace Go.Proofs.Ytkcopbnaleiocaa.Ev
open Go
set_option linter.unusedVariables false
set_option linter.unusedSimpArgs false
theorem bytesIn_cut {xs : List (List D)} (h : bytesIn xs = true) (a b : Int) : bytesIn (cut xs a b) = true := by
  refine List.all_eq_true.2 fun e he => List.all_eq_true.1 h e ?_
  unfold cut at he
  exact List.mem_of_mem_drop (List.mem_of_mem_take he)
theorem bytesIn_cutV {xs : List (List D)} (h : bytesIn xs = true) (a n e : Int) : bytesIn (cutV xs a n e) = true := by
  unfold cutV
  split
  · exact bytesIn_cut h _ _
  · rfl
theorem runs_ral (b s y l g : List (List D)) (hb : bytesIn b = true) (hl : b.length ≤ 1048576) (place : Int) (many : Int) (hm : many ≤ 65536) :
    ∀ (d i : Nat) (h : List (List D)) (e : Int), ((d + i : Nat) : Int) = many ∨ (d = 0 ∧ many ≤ i) → h.length ≤ 1024 + i → i ≤ 65536 →
      Runs er2 (92, Try.f92, 1) ralk1 (rals1 place many (i : Nat) b h s y l g e) (fun r => Relax r.1 (.tup []) ∧ r.2 = [(allGo place d i ⟨b, h, s, y, l, g, e⟩).cells]) := by
  intro d
  induction d with
  | zero =>
    intro i h e hd hh hi
    refine Runs.of (fun q => ralp1 q place many _ b h s y l g e) ?_
    unfold ralt1
    exact askF (decF (by omega)) ⟨.one (.one (.refl _)), rfl⟩
  | succ d ih =>
    intro i h e hd hh hi
    refine Runs.of (fun q => ralp1 q place many _ b h s y l g e) ?_
    unfold ralt1
    have hw : IntKind.wrap .i64 ((i : Int) + 1) = ((i + 1 : Nat) : Int) := by rw [wrap64 (by omega) (by omega)]; omega
    refine askT (decT (by omega)) (ask (fun he => ?_) (fun he => ?_))
    · have he : e = 0 := beq_iff_eq.1 he
      have e0 : allGo place (d + 1) i ⟨b, h, s, y, l, g, e⟩ = allGo place d (i + 1) (allOne place i ⟨b, h, s, y, l, g, e⟩) := by
        rw [allGo, if_pos he]
      rw [e0, hw]
      have := ih (i + 1) (h ++ [(hdRV (allX b place i e)).row]) (if hdRE (allX b place i e) ≠ 0 then 8 else cutE b (IntKind.wrap .i64 (place + IntKind.wrap .i64 ((i : Int) * 64))) 64 e) (by omega) (by rw [List.length_append]; simp only [List.length_cons, List.length_nil]; omega) (by omega)
      have hx : bytesIn (allX b place i e) = true := bytesIn_cutV hb _ _ _
      refine askT (show decide (b.length ≤ 1048576) = true from decT hl) (askT hx (ask (fun h1 => ?_) (fun h1 => ?_)))
      · have h1 : hdRE (allX b place i e) ≠ 0 := bne_iff_ne.1 h1
        rw [if_pos h1] at this
        refine askT (andT (decT (by simp only [List.length_cons, List.length_nil]; omega)) (decT (by simp only [List.length_cons, List.length_nil]; omega))) ?_
        have e1 : allOne place i ⟨b, h, s, y, l, g, e⟩ = ⟨b, h ++ [(hdRV (allX b place i e)).row], s, y, l, g, 8⟩ := by
          simp only [allOne, if_pos h1]
        rw [e1]
        exact this
      · have h1 : (hdRE (allX b place i e) != 0) = false := h1
        have h1 : ¬ hdRE (allX b place i e) ≠ 0 := by simpa [bne] using h1
        rw [if_neg h1] at this
        refine askT (andT (decT (by simp only [List.length_cons, List.length_nil]; omega)) (decT (by simp only [List.length_cons, List.length_nil]; omega))) ?_
        have e1 : allOne place i ⟨b, h, s, y, l, g, e⟩ = ⟨b, h ++ [(hdRV (allX b place i e)).row], s, y, l, g, cutE b (IntKind.wrap .i64 (place + IntKind.wrap .i64 ((i : Int) * 64))) 64 e⟩ := by
          simp only [allOne, if_neg h1]
        rw [e1]
        exact this
    · have he : ¬ e = 0 := beq_eq_false_iff_ne.1 he
      have e0 : allGo place (d + 1) i ⟨b, h, s, y, l, g, e⟩ = ⟨b, h, s, y, l, g, e⟩ := by
        rw [allGo, if_neg he]
      rw [e0]
      exact ⟨.one (.one (.refl _)), rfl⟩
theorem leN_lt : ∀ (xs : List (List D)), bytesIn xs = true → 0 ≤ leN xs ∧ leN xs < 256 ^ xs.length
  | [], _ => by simp [leN]
  | e :: t, h => by
    have h' : (decide (0 ≤ (e.getD 0 default).toInt) && decide ((e.getD 0 default).toInt < 256) && bytesIn t) = true := h
    simp only [Bool.and_eq_true, decide_eq_true_eq] at h'
    have := leN_lt t h'.2
    have h1 := h'.1.1
    have h2 := h'.1.2
    rw [List.length_cons, Int.pow_succ]
    rw [leN]
    omega
theorem cut_len_le {xs : List (List D)} (a n : Nat) : (cut xs (a : Int) ((a : Int) + (n : Int))).length ≤ n := by
  unfold cut
  rw [List.length_take]
  omega
theorem getV2 {b : List (List D)} (hb : bytesIn b = true) : 0 ≤ getV b 60 2 ∧ getV b 60 2 ≤ 65535 := by
  unfold getV
  split
  · have h1 := leN_lt _ (bytesIn_cut hb 60 (60 + 2))
    have h2 : (cut b 60 (60 + 2)).length ≤ 2 := cut_len_le 60 2
    have h3 : (256 : Int) ^ (cut b 60 (60 + 2)).length ≤ 65536 := by
      have : (cut b 60 (60 + 2)).length = 0 ∨ (cut b 60 (60 + 2)).length = 1 ∨ (cut b 60 (60 + 2)).length = 2 := by omega
      rcases this with h | h | h <;> rw [h] <;> decide
    rw [wrap64 (by omega) (by omega)]
    omega
  · omega
theorem con_ral : ∀ vs os r, pAll vs os = true → gAll vs os = some r → Contract Try.prog 92 vs [os] (r.1, [r.2]) := by
  intro vs os r hp h
  unfold gAll at h
  split at h
  · split at h
    · rename_i d hd
      cases h
      simp only [pAll, hd, Bool.and_eq_true, decide_eq_true_eq] at hp
      obtain ⟨⟨p1, p2⟩, p3⟩ := hp
      have := rdOf_eq hd
      subst this
      refine el_conO le2_ok Try.func92 (by kernel_rfl) (by kernel_rfl) rfl (by kernel_rfl) (by kernel_rfl) (Runs.of (fun q => ralp0 q d.b d.h d.s d.y d.l d.g d.e) ?_)
      unfold ralt0
      have hn : (bytesIn d.b && decide (d.b.length ≤ 1048576)) = true := andT p1 (decT p2)
      obtain ⟨g1, g2⟩ := getV2 p1
      have go : ∀ e : Int, allE d.b d.e = e → Runs er2 (92, Try.f92, 1) ralk1 (rals1 (getV d.b 40 8) (getV d.b 60 2) 0 d.b d.h d.s d.y d.l d.g e) (fun r => Relax r.1 (.tup []) ∧ r.2 = [(allF d).cells]) := by
        intro e he
        have := runs_ral d.b d.s d.y d.l d.g p1 p2 (getV d.b 40 8) (getV d.b 60 2) (by omega) (getV d.b 60 2).toNat 0 d.h e (by omega) (by omega) (by omega)
        subst he
        exact this
      refine askT hn (askT hn (ask (fun h1 => ?_) (fun h1 => ask (fun h2 => ?_) (fun h2 => ?_))))
      · exact go 8 (by rw [allE, if_pos (of_decide_eq_true h1)])
      · exact go 8 (by rw [allE, if_neg (of_decide_eq_false h1), if_pos (of_decide_eq_true h2)])
      · exact go _ (by rw [allE, if_neg (of_decide_eq_false h1), if_neg (of_decide_eq_false h2)])
    · cases h
  · cases h
theorem le3_ok : ExtAll Try.prog le3 := .box con_ral le2_ok
end Go.Proofs.Ytkcopbnaleiocaa.Ev
