/- A written file is read as what was written. -/
import Derived.Test.YtkcopbnaleiocaaRbC
namespace Go.Proofs.Ytkcopbnaleiocaa.Ev
open Go
set_option linter.unusedVariables false
set_option linter.unusedSimpArgs false
/-! ### Relocations in their order -/
theorem filt_split : ∀ (L : List (List D)) (v w : Int), L.Pairwise (fun a b => rI a 0 ≤ rI b 0) → v ≤ w →
    (L.filter fun e => rI e 0 == v) ++ (L.filter fun e => decide (v < rI e 0) && decide (rI e 0 ≤ w)) = L.filter fun e => decide (v ≤ rI e 0) && decide (rI e 0 ≤ w)
  | [], _, _, _, _ => rfl
  | a :: t, v, w, h, hv => by
    obtain ⟨h1, h2⟩ := List.pairwise_cons.1 h
    have ih := filt_split t v w h2 hv
    rcases Int.lt_trichotomy (rI a 0) v with q | q | q
    · rw [List.filter_cons_of_neg (by simp; omega), List.filter_cons_of_neg (by simp; omega), List.filter_cons_of_neg (by simp; omega), ih]
    · rw [List.filter_cons_of_pos (by simp [q]), List.filter_cons_of_neg (by simp; omega), List.filter_cons_of_pos (by simp; omega), List.cons_append, ih]
    · have e2 : (t.filter fun e => rI e 0 == v) = [] := List.filter_eq_nil_iff.2 fun e he => by
        have := h1 e he
        simp only [beq_iff_eq]; omega
      rw [e2, List.nil_append] at ih
      rw [List.filter_cons_of_neg (by simp; omega), e2, List.nil_append]
      by_cases q2 : rI a 0 ≤ w
      · rw [List.filter_cons_of_pos (by simp; omega), List.filter_cons_of_pos (by simp; omega), ih]
      · rw [List.filter_cons_of_neg (by simp; omega), List.filter_cons_of_neg (by simp; omega), ih]
def relF (L : List (List D)) : Nat → Nat → List (List D)
  | 0, _ => []
  | n + 1, i => (L.filter fun e => rI e 0 == ((i + 1 : Nat) : Int)) ++ relF L n (i + 1)
theorem relF_eq {L : List (List D)} (h : L.Pairwise (fun a b => rI a 0 ≤ rI b 0)) : ∀ (n i : Nat), relF L n i = L.filter fun e => decide ((i : Int) < rI e 0) && decide (rI e 0 ≤ (i : Int) + (n : Nat))
  | 0, i => by
    rw [relF]; symm
    refine List.filter_eq_nil_iff.2 fun e he => ?_
    simp only [Bool.and_eq_true, decide_eq_true_eq]; omega
  | n + 1, i => by
    rw [relF, relF_eq h n (i + 1)]
    refine (filt_split L ((i + 1 : Nat) : Int) (((i + 1 : Nat) : Int) + (n : Nat)) h (by omega)).trans (List.filter_congr fun e _ => ?_)
    congr 1 <;> exact decide_eq_decide.2 (by omega)
theorem relF_all {L : List (List D)} {n : Nat} (h : L.Pairwise (fun a b => rI a 0 ≤ rI b 0)) (hn : ∀ e ∈ L, 1 ≤ rI e 0 ∧ rI e 0 ≤ (n : Nat)) : relF L n 0 = L := by
  rw [relF_eq h]
  refine List.filter_eq_self.2 fun e he => ?_
  have := hn e he
  simp only [Bool.and_eq_true, decide_eq_true_eq]; omega
theorem rels_sorted {S L : List (List D)} {n : Int} : ∀ {t : List (List D)} {i : Nat}, relsGo S n L t i = true → L.drop i = t → ∀ (j : Nat) e, i ≤ j → L[j]? = some e → ∀ q ∈ L.take j, rI q 0 ≤ rI e 0
  | [], i, _, ht, j, e, hj, he => by
    have := drop_nil ht
    rw [List.getElem?_eq_none (by omega)] at he; cases he
  | x :: t, i, h, ht, j, e, hj, he => by
    obtain ⟨h1, h2, h3⟩ := drop_cons ht
    simp only [relsGo, Bool.and_eq_true] at h
    rcases Nat.eq_or_lt_of_le hj with rfl | hj
    · intro q hq
      have hx : e = x := by
        rw [List.getD_eq_getElem?_getD, he] at h2; exact h2
      subst hx
      have := List.all_eq_true.1 h.1.2 q hq
      simp only [relBad, Bool.not_eq_true', Bool.or_eq_false_iff, decide_eq_false_iff_not] at this
      omega
    · exact rels_sorted h.2 h3 j e (by omega) he
theorem rels_pw {S L : List (List D)} {n : Int} (h : relsGo S n L L 0 = true) : L.Pairwise (fun a b => rI a 0 ≤ rI b 0) := by
  refine List.pairwise_iff_getElem.2 fun i j hi hj hij => ?_
  refine rels_sorted h rfl j L[j] (by omega) (List.getElem?_eq_getElem hj) L[i] ?_
  refine List.mem_take_iff_getElem.2 ⟨i, by omega, rfl⟩
/-! ### Effects -/
def effS (S : List (List D)) : List (Rd → Rd) := S.map fun e r => { r with s := r.s ++ [e] }
def effG (G : List (List D)) : List (Rd → Rd) := G.map fun e r => { r with g := r.g ++ [e] }
def effL (L : List (List D)) : List (List D) → Nat → List (Rd → Rd)
  | [], _ => []
  | e :: t, i => (if 0 < (rA e 0).length then [fun r => { r with l := r.l ++ L.filter fun e => rI e 0 == ((i + 1 : Nat) : Int) }] else []) ++ effL L t (i + 1)
theorem run_S : ∀ (S : List (List D)) (r : Rd), runE (effS S) r = { r with s := r.s ++ S }
  | [], r => by cases r; simp [effS, runE]
  | e :: t, r => by
    have := run_S t { r with s := r.s ++ [e] }
    simp only [List.append_assoc, List.cons_append, List.nil_append] at this
    exact this
theorem run_G : ∀ (G : List (List D)) (r : Rd), runE (effG G) r = { r with g := r.g ++ G }
  | [], r => by cases r; simp [effG, runE]
  | e :: t, r => by
    have := run_G t { r with g := r.g ++ [e] }
    simp only [List.append_assoc, List.cons_append, List.nil_append] at this
    exact this
theorem filt_ok {L : List (List D)} (hL : ∀ e ∈ L, RelOk (rI e 0) e) (v : Int) : ∀ e ∈ L.filter (fun e => rI e 0 == v), RelOk v e := fun e he => by
  obtain ⟨h1, h2⟩ := List.mem_filter.1 he
  have h2 := beq_iff_eq.1 h2
  have := hL e h1
  rw [h2] at this
  exact this
theorem run_L {L : List (List D)} (hL : ∀ e ∈ L, RelOk (rI e 0) e) : ∀ (t : List (List D)) (i : Nat) (r : Rd), (∀ (j : Nat) e, t[j]? = some e → rA e 0 = relsOf (i + j + 1) L) → runE (effL L t i) r = { r with l := r.l ++ relF L t.length i }
  | [], i, r, _ => by cases r; simp [effL, relF, runE]
  | e :: t, i, r, ht => by
    have h0 := ht 0 e rfl
    have ih := fun r => run_L hL t (i + 1) r (fun j e' hj => by
      have := ht (j + 1) e' hj
      rw [show i + (j + 1) = i + 1 + j from by omega] at this
      exact this)
    have hl := rels_len (filt_ok hL ((i + 1 : Nat) : Int))
    rw [effL, runE_app, ih, List.length_cons, relF]
    by_cases hp : 0 < (rA e 0).length
    · rw [if_pos hp]
      simp only [runE, List.foldl_cons, List.foldl_nil, List.append_assoc]
    · rw [if_neg hp]
      have hF : (L.filter fun e => rI e 0 == ((i + 1 : Nat) : Int)) = [] := by
        refine List.eq_nil_of_length_eq_zero ?_
        have : (rA e 0).length = (((L.filter fun e => rI e 0 == ((i + 1 : Nat) : Int)).map relRow).flatten).length := by rw [h0]; rfl
        omega
      rw [hF, List.nil_append]; rfl
/-! ### Heads that are found -/
inductive GdL (b H : List (List D)) : List Pt → List Hd → Prop
  | nil : GdL b H [] []
  | cons {p : Pt} {h : Hd} {ps : List Pt} {hs : List Hd} (ht : h.type = p.hd.type) (ha : h.align = p.hd.align) (hi : h.info = p.hd.info) (hz : p.hd.type = 8 → h.size = p.hd.size) (g : GdH b H h p.nm p.x) (t : GdL b H ps hs) : GdL b H (p :: ps) (h :: hs)
theorem gdl_app {b H : List (List D)} : ∀ {a c : List Pt} {hs : List Hd}, GdL b H (a ++ c) hs → ∃ h1 h2, hs = h1 ++ h2 ∧ GdL b H a h1 ∧ GdL b H c h2
  | [], c, hs, h => ⟨[], hs, rfl, .nil, h⟩
  | p :: a, c, _, .cons (h := h) ht ha hi hz g t => by
    obtain ⟨h1, h2, rfl, k1, k2⟩ := gdl_app t
    exact ⟨h :: h1, h2, rfl, .cons ht ha hi hz g k1, k2⟩
theorem gdl_of {b H P T : List (List D)} (hT : ∀ r, RdB b H r → ∀ a, getSE T a = 0 → nameS r (r.h.length - 1) a = getS T a ∧ nameE r (r.h.length - 1) a = 0) :
    ∀ {ps : List Pt} {hs : List Hd} (i : Nat), Pl b ps hs → (∀ (j : Nat) p, ps[j]? = some p → getS T (cellI P (i + j) 0) = p.nm ∧ getSE T (cellI P (i + j) 0) = 0) → GdL b H ps (nmd P hs i)
  | _, _, i, .nil, _ => .nil
  | _, _, i, .cons (p := p) (hs := hs) o ho hx t, hn => by
    obtain ⟨n1, n2⟩ := hn 0 p rfl
    rw [Nat.add_zero] at n1 n2
    refine .cons rfl rfl rfl (fun h8 => if_pos h8) ⟨fun r hr => ?_, fun h8 => ⟨o, rfl, if_neg h8, hx⟩⟩ (gdl_of hT (i + 1) t fun j q hq => ?_)
    · obtain ⟨q1, q2⟩ := hT r hr _ n2
      exact ⟨q1.trans n1, q2⟩
    · have := hn (j + 1) q hq
      rw [show i + (j + 1) = i + 1 + j from by omega] at this
      exact this
theorem eff_sec {b H m : List (List D)} : ∀ (S : List (List D)) (i : Nat) {hs : List Hd}, (∀ e ∈ S, ∃ s a x z, e = [D.str s, .int a, .arr x, .int z]) → secAll S = true → GdL b H (secP m S i) hs → Eff b H hs (effS S)
  | [], i, hs, _, _, h => by cases h; exact .nil
  | e :: t, i, hs, hS, hk, h => by
    obtain ⟨s, a, x, z, rfl⟩ := hS e List.mem_cons_self
    have hk' : (secOk s a (x.length : Nat) z && secAll t) = true := hk
    simp only [Bool.and_eq_true] at hk'
    rw [secP] at h
    cases h with
    | cons ht ha hi hz g t' =>
      refine .cons (fun r hr => step_sec hk'.1 ht ha (fun k => ?_) g r hr) (eff_sec t (i + 1) (fun e he => hS e (List.mem_cons_of_mem _ he)) hk'.2 t')
      exact (hz (show (if kindV s = 4 then 8 else 1 : Int) = 8 from if_pos k)).trans (show (if kindV s = 4 then z else 0) = z from if_pos k)
theorem eff_grp {b H : List (List D)} {N : Int} : ∀ (G : List (List D)) {hs : List Hd}, (∀ e ∈ G, ∃ s l, e = [D.str s, .arr l] ∧ ∀ q ∈ l, ∃ n, q = [D.int n] ∧ 0 ≤ n ∧ n < 4294967296) → GdL b H (grpP N G) hs → Eff b H hs (effG G)
  | [], hs, _, h => by cases h; exact .nil
  | e :: t, hs, hG, h => by
    obtain ⟨s, l, rfl, hl⟩ := hG e List.mem_cons_self
    rw [grpP, List.map_cons] at h
    cases h with
    | cons ht ha hi hz g t' => exact .cons (fun r hr => step_grp ht hl g r hr) (eff_grp t (fun e he => hG e (List.mem_cons_of_mem _ he)) t')
theorem eff_rel {b H L S : List (List D)} {N : Int} (hL : ∀ e ∈ L, RelOk (rI e 0) e) : ∀ (t : List (List D)) (i : Nat) {hs : List Hd}, (∀ (j : Nat) e, t[j]? = some e → rA e 0 = relsOf (i + j + 1) L) → GdL b H (relP N S t i) hs → Eff b H hs (effL L t i)
  | [], i, hs, _, h => by cases h; exact .nil
  | e :: t, i, hs, ht, h => by
    have h0 : rA e 0 = relsOf (i + 1) L := ht 0 e rfl
    have ht' : ∀ (j : Nat) e', t[j]? = some e' → rA e' 0 = relsOf (i + 1 + j + 1) L := fun j e' hj => by
      have := ht (j + 1) e' hj
      rw [show i + (j + 1) = i + 1 + j from by omega] at this
      exact this
    rw [relP] at h
    rw [effL]
    by_cases hp : 0 < (rA e 0).length
    · rw [if_pos hp, List.cons_append, List.nil_append] at h ⊢
      cases h with
      | cons k1 k2 k3 k4 g t' =>
        refine .cons (fun r hr => step_rel k1 (fun q hq => ?_) (by rw [← show rA e 0 = ((L.filter fun e => rI e 0 == ((i + 1 : Nat) : Int)).map relRow).flatten from h0]; exact g) r hr) (eff_rel hL t (i + 1) ht' t')
        rw [k3]
        exact filt_ok hL _ q hq
    · rw [if_neg hp, List.nil_append] at h ⊢
      exact eff_rel hL t (i + 1) ht' h
end Go.Proofs.Ytkcopbnaleiocaa.Ev
