/- What each part of a written file is read as. -/
import Derived.Test.YtkcopbnaleiocaaRbB
namespace Go.Proofs.Ytkcopbnaleiocaa.Ev
open Go
set_option linter.unusedVariables false
set_option linter.unusedSimpArgs false
/-! ### Parts one by one -/
structure RdB (b H : List (List D)) (r : Rd) : Prop where
  hb : r.b = b
  hh : r.h = H
  he : r.e = 0
inductive Eff (b H : List (List D)) : List Hd → List (Rd → Rd) → Prop
  | nil : Eff b H [] []
  | cons {h : Hd} {hs : List Hd} {ε : Rd → Rd} {es : List (Rd → Rd)} (s : ∀ r, RdB b H r → partR r h = ε r ∧ RdB b H (ε r)) (t : Eff b H hs es) : Eff b H (h :: hs) (ε :: es)
theorem eff_app {b H : List (List D)} : ∀ {hs hs' : List Hd} {es es' : List (Rd → Rd)}, Eff b H hs es → Eff b H hs' es' → Eff b H (hs ++ hs') (es ++ es')
  | _, _, _, _, .nil, h => h
  | _, _, _, _, .cons s t, h => .cons s (eff_app t h)
def runE (es : List (Rd → Rd)) (r : Rd) : Rd := es.foldl (fun r ε => ε r) r
theorem runE_app (a b : List (Rd → Rd)) (r : Rd) : runE (a ++ b) r = runE b (runE a r) := List.foldl_append
theorem go_eff {b H : List (List D)} : ∀ {hs : List Hd} {es : List (Rd → Rd)}, Eff b H hs es → ∀ (i d : Nat) (r : Rd), RdB b H r → H.drop i = hs.map Hd.row → hs.length ≤ d → partsGo d i r = runE es r
  | _, _, .nil, i, d, r, hr, hd, hl => by
    have := drop_nil hd
    cases d with
    | zero => rfl
    | succ d => rw [partsGo, if_neg (by rw [hr.hh]; omega)]; rfl
  | _, _, .cons (h := h) (ε := ε) s t, i, d, r, hr, hd, hl => by
    rw [List.length_cons] at hl
    cases d with
    | zero => omega
    | succ d =>
      obtain ⟨h1, h2, h3⟩ := drop_cons hd
      obtain ⟨s1, s2⟩ := s r hr
      rw [partsGo, if_pos ⟨by rw [hr.hh]; exact h1, hr.he⟩, hr.hh, h2, show hdRow h.row = h from rfl, s1]
      exact go_eff t (i + 1) d (ε r) s2 h3 (by omega)
/-- A head whose name and rows are found. -/
structure GdH (b H : List (List D)) (h : Hd) (nm : ByteArray) (x : List (List D)) : Prop where
  nm : ∀ r, RdB b H r → nameS r (r.h.length - 1) h.name = nm ∧ nameE r (r.h.length - 1) h.name = 0
  dat : h.type ≠ 8 → ∃ o : Nat, h.offset = (o : Nat) ∧ h.size = (x.length : Nat) ∧ Has b o x
theorem rd_eta {r : Rd} {n : Int} (h : r.e = 0) (hn : n = 0) : ({ r with e := n } : Rd) = r := by
  cases r; simp only at h; subst h; subst hn; rfl
theorem partN_ok {b H : List (List D)} {h : Hd} {nm : ByteArray} {x : List (List D)} (g : GdH b H h nm x) {r : Rd} (hr : RdB b H r) : partN r h = r := rd_eta hr.he (g.nm r hr).2
theorem partC_ok {b H : List (List D)} {h : Hd} {nm : ByteArray} {x : List (List D)} (g : GdH b H h nm x) {r : Rd} (hr : RdB b H r) (ht : h.type ≠ 8) : partC r h = r ∧ partX r h = x := by
  obtain ⟨o, e1, e2, e3⟩ := g.dat ht
  have e := partN_ok g hr
  constructor
  · rw [partC, e]
    exact rd_eta hr.he (by rw [e1, e2, hr.hb, hr.he, has_cutE e3])
  · rw [partX, e, e1, e2, hr.hb, hr.he, has_cutV e3]
theorem step_sec {b H : List (List D)} {h : Hd} {s : ByteArray} {a z : Int} {x : List (List D)} (hk : secOk s a (x.length : Nat) z = true) (ht : h.type = if kindV s = 4 then 8 else 1) (ha : h.align = a) (hz : kindV s = 4 → h.size = z) (g : GdH b H h s x) (r : Rd) (hr : RdB b H r) :
    partR r h = { r with s := r.s ++ [[.str s, .int a, .arr x, .int z]] } ∧ RdB b H { r with s := r.s ++ [[.str s, .int a, .arr x, .int z]] } := by
  refine ⟨?_, ⟨hr.hb, hr.hh, hr.he⟩⟩
  unfold secOk at hk
  by_cases k : kindV s = 4
  · rw [if_pos k] at hk ht
    simp only [Bool.and_eq_true, decide_eq_true_eq] at hk
    have hx : x = [] := List.eq_nil_of_length_eq_zero (by omega)
    rw [partR, if_pos ht, partN_ok g hr, (g.nm r hr).1, ha, hz k, hx]
  · rw [if_neg k] at hk ht
    simp only [Bool.and_eq_true, decide_eq_true_eq] at hk
    obtain ⟨c, cx⟩ := partC_ok g hr (by rw [ht]; omega)
    have z0 : z = 0 := hk.2.1
    rw [partR, if_neg (by rw [ht]; omega), if_pos ht, c, cx, (g.nm r hr).1, ha, z0]
/-! ### Groups -/
theorem cutName_grp (s : ByteArray) : cutName (sGrp ++ s) = s := by
  have hz : (sGrp ++ s).size = 7 + s.size := by rw [ByteArray.size_append]; rfl
  rw [cutName, hz, if_neg (by omega)]
  apply ByteArray.ext
  apply Array.ext'
  rw [ByteArray.data_extract, ByteArray.data_append, Array.toList_extract, Array.toList_append]
  have h7 : sGrp.data.toList.length = 7 := rfl
  have hs : s.data.toList.length = s.size := by rw [Array.length_toList]; rfl
  simp only [List.extract, show Int.toNat 7 = 7 from rfl]
  rw [show (7 : Nat) = sGrp.data.toList.length from rfl, List.drop_left, List.take_of_length_le (by omega)]
theorem put4 {n : Int} (h0 : 0 ≤ n) (h1 : n < 4294967296) : putB n 4 = leB n 4 := by
  have : putOk n 4 = true := by simp [putOk, siz]; omega
  rw [putB, if_pos this]; rfl
theorem grpR_back : ∀ (l A acc : List (List D)) (d : Nat), (∀ e ∈ l, ∃ n, e = [D.int n] ∧ 0 ≤ n ∧ n < 4294967296) → l.length ≤ d → grpR (A ++ numsB 4 l) d (A.length : Nat) 0 acc = (acc ++ l, 0)
  | [], A, acc, d, _, _ => by
    have : (A ++ numsB 4 []).length = A.length := by rw [show numsB 4 [] = [] from rfl, List.append_nil]
    cases d with
    | zero => rw [grpR, List.append_nil]
    | succ d => rw [grpR, if_neg (by rw [this]; omega), List.append_nil]
  | e :: t, A, acc, d, hl, hd => by
    obtain ⟨n, rfl, n0, n1⟩ := hl e List.mem_cons_self
    rw [List.length_cons] at hd
    cases d with
    | zero => omega
    | succ d =>
      have ex : A ++ numsB 4 ([D.int n] :: t) = A ++ (leB n 4 ++ numsB 4 t) := by
        rw [show numsB 4 ([D.int n] :: t) = putB n 4 ++ numsB 4 t from rfl, put4 n0 n1]
      have ex2 : A ++ (leB n 4 ++ numsB 4 t) = (A ++ leB n 4) ++ numsB 4 t := by rw [List.append_assoc]
      have hlen : (A ++ (leB n 4 ++ numsB 4 t)).length = A.length + 4 + (numsB 4 t).length := by rw [List.length_append, List.length_append, leB_len]; omega
      have hv : getV (A ++ (leB n 4 ++ numsB 4 t)) (A.length : Nat) 4 = n := getV_f4 ⟨A, numsB 4 t, rfl, rfl⟩ (andT (decT n0) (decT n1)) rfl
      have he : numE (A ++ (leB n 4 ++ numsB 4 t)) (A.length : Nat) 4 0 = 0 := by
        have : getE (A ++ (leB n 4 ++ numsB 4 t)) (A.length : Nat) 4 = 0 := by
          unfold getE
          rw [show siz 4 = true from rfl]
          simp only [Bool.not_true, Bool.false_eq_true, if_false]
          rw [if_neg]; rw [hlen]; omega
        rw [numE, this, if_neg (by simp)]
      rw [ex, grpR, if_pos (by rw [hlen]; omega), hv, he]
      have ih := grpR_back t (A ++ leB n 4) (acc ++ [[.int n]]) d (fun q hq => hl q (List.mem_cons_of_mem _ hq)) (by omega)
      rw [← ex2] at ih
      rw [show ((A.length : Nat) : Int) + 4 = ((A ++ leB n 4).length : Nat) from by rw [List.length_append, leB_len]; omega, ih, List.append_assoc]; rfl
theorem numsB_ge {l : List (List D)} : (∀ e ∈ l, ∃ n, e = [D.int n] ∧ 0 ≤ n ∧ n < 4294967296) → l.length ≤ (numsB 4 l).length := by
  induction l with
  | nil => intro _; exact Nat.zero_le _
  | cons e t ih =>
    intro hl
    obtain ⟨n, rfl, n0, n1⟩ := hl e List.mem_cons_self
    have := ih (fun q hq => hl q (List.mem_cons_of_mem _ hq))
    rw [show numsB 4 ([D.int n] :: t) = putB n 4 ++ numsB 4 t from rfl, put4 n0 n1, List.length_append, leB_len, List.length_cons]; omega
theorem step_grp {b H : List (List D)} {h : Hd} {s : ByteArray} {l : List (List D)} (ht : h.type = 17) (hl : ∀ e ∈ l, ∃ n, e = [D.int n] ∧ 0 ≤ n ∧ n < 4294967296) (g : GdH b H h (sGrp ++ s) (numsB 4 [[.int 1]] ++ numsB 4 l)) (r : Rd) (hr : RdB b H r) :
    partR r h = { r with g := r.g ++ [[.str s, .arr l]] } ∧ RdB b H { r with g := r.g ++ [[.str s, .arr l]] } := by
  refine ⟨?_, ⟨hr.hb, hr.hh, hr.he⟩⟩
  obtain ⟨c, cx⟩ := partC_ok g hr (by rw [ht]; omega)
  have hg := grpR_back l (numsB 4 [[.int 1]]) [] (numsB 4 [[.int 1]] ++ numsB 4 l).length hl (by rw [List.length_append]; have := numsB_ge hl; omega)
  have h4 : (((numsB 4 [[.int 1]]).length : Nat) : Int) = 4 := rfl
  rw [h4, List.nil_append] at hg
  rw [partR, if_neg (by rw [ht]; omega), if_neg (by rw [ht]; omega), if_pos ht, c, cx, (g.nm r hr).1, cutName_grp, hr.he, hg]
/-! ### Relocations -/
theorem wrap8 {n : Int} (h0 : 0 ≤ n) (h1 : n ≤ 255) : IntKind.wrap .u8 n = n := by
  have : IntKind.wrap .u8 n = n % 256 := by simp [IntKind.wrap, IntKind.bits, IntKind.signed]
  rw [this]; omega
theorem same_self (x : List (List D)) : sameB x x = true := by rw [sameB, bytes_eq]; exact decT rfl
theorem relB_eq {b k c d : Int} (h : relWok b k c d = true) (k0 : 0 ≤ k) (k1 : k ≤ 255) : relB b k c d = leB b 8 ++ (leB k 4 ++ (leB (c + 1) 4 ++ leB d 8)) := by
  simp only [relWok, Bool.and_eq_true, decide_eq_true_eq] at h
  rw [relB, wrap64 (n := k) (by omega) (by omega), wrap64 (n := c + 1) (by omega) (by omega), putB8, putB8, put4 k0 (by omega), put4 (by omega) (by omega)]
  simp only [List.append_assoc]
theorem relB_len {b k c d : Int} (h : relWok b k c d = true) (k0 : 0 ≤ k) (k1 : k ≤ 255) : (relB b k c d).length = 24 := by
  rw [relB_eq h k0 k1]; simp only [List.length_append, leB_len]
theorem relB_back {b k c d : Int} (h : relWok b k c d = true) (k0 : 0 ≤ k) (k1 : k ≤ 255) : relRe (relB b k c d) = 0 ∧ ∀ info, relOne (relB b k c d) info = [.int info, .int b, .int k, .int c, .int d] := by
  have hw := h
  simp only [relWok, Bool.and_eq_true, decide_eq_true_eq] at h
  have hl := relB_len hw k0 k1
  have t0 : Has (relB b k c d) 0 (leB b 8 ++ (leB k 4 ++ (leB (c + 1) 4 ++ leB d 8))) := by
    have := has_self (relB b k c d)
    conv at this => rhs; rw [relB_eq hw k0 k1]
    exact this
  have t1 := has_tail t0 (leB_len _ _)
  have t2 := has_tail t1 (leB_len _ _)
  have t3 := has_tail t2 (leB_len _ _)
  have u0 : getV (relB b k c d) 0 8 = b := getV_has64 (has_head t0) (by omega) (by omega) rfl
  have u1 : getV (relB b k c d) 8 4 = k := getV_f4 (has_head t1) (andT (decT k0) (decT (by omega))) rfl
  have u2 : getV (relB b k c d) 12 4 = c + 1 := getV_f4 (has_head t2) (andT (decT (by omega)) (decT (by omega))) rfl
  have u3 : getV (relB b k c d) 16 8 = d := getV_has64 t3 (by omega) (by omega) rfl
  have v1 : relRk (relB b k c d) = k := by rw [relRk, u1, wrap8 k0 k1]
  have v2 : relRc (relB b k c d) = c := by rw [relRc, u2, wrap64 (by omega) (by omega)]; omega
  have e0 : relRe (relB b k c d) = 0 := by
    rw [relRe, if_neg (by omega), u0, v1, v2, u3, if_pos hw, if_pos (same_self _)]
  refine ⟨e0, fun info => ?_⟩
  rw [relOne, e0, u0, v1, v2, u3]; rfl
def RelOk (info : Int) (e : List D) : Prop := ∃ b k c d, e = [D.int info, .int b, .int k, .int c, .int d] ∧ relWok b k c d = true ∧ 0 ≤ k ∧ k ≤ 255
theorem relRow_eq {info : Int} {e : List D} (h : RelOk info e) : (relRow e).length = 24 ∧ relRe (relRow e) = 0 ∧ relOne (relRow e) info = e := by
  obtain ⟨b, k, c, d, rfl, hw, k0, k1⟩ := h
  have e0 : relRow [D.int info, .int b, .int k, .int c, .int d] = relB b k c d := if_pos hw
  rw [e0]
  exact ⟨relB_len hw k0 k1, (relB_back hw k0 k1).1, (relB_back hw k0 k1).2 info⟩
theorem relR_back {info : Int} : ∀ (F acc : List (List D)) (d : Nat), (∀ e ∈ F, RelOk info e) → F.length ≤ d → relR info d ((F.map relRow).flatten) 0 acc = (acc ++ F, 0)
  | [], acc, d, _, _ => by
    cases d with
    | zero => rw [relR, List.append_nil]
    | succ d => rw [relR, if_neg (by simp), List.append_nil]
  | e :: t, acc, d, hF, hd => by
    obtain ⟨h1, h2, h3⟩ := relRow_eq (hF e List.mem_cons_self)
    rw [List.length_cons] at hd
    cases d with
    | zero => omega
    | succ d =>
      have e1 : ((e :: t).map relRow).flatten = relRow e ++ (t.map relRow).flatten := rfl
      have e2 : (relRow e ++ (t.map relRow).flatten).take 24 = relRow e := by rw [← h1, List.take_left]
      have e3 : (relRow e ++ (t.map relRow).flatten).drop 24 = (t.map relRow).flatten := by rw [← h1, List.drop_left]
      rw [e1, relR, if_pos (by rw [List.length_append]; omega), e2, e3, h2, h3, if_neg (by simp), relR_back t _ d (fun q hq => hF q (List.mem_cons_of_mem _ hq)) (by omega), List.append_assoc]; rfl
theorem rels_len {info : Int} : ∀ {F : List (List D)}, (∀ e ∈ F, RelOk info e) → ((F.map relRow).flatten).length = 24 * F.length
  | [], _ => rfl
  | e :: t, hF => by
    have := rels_len (F := t) (fun q hq => hF q (List.mem_cons_of_mem _ hq))
    rw [show ((e :: t).map relRow).flatten = relRow e ++ (t.map relRow).flatten from rfl, List.length_append, (relRow_eq (hF e List.mem_cons_self)).1, this, List.length_cons]; omega
theorem step_rel {b H : List (List D)} {h : Hd} {nm : ByteArray} {F : List (List D)} (ht : h.type = 4) (hF : ∀ e ∈ F, RelOk h.info e) (g : GdH b H h nm ((F.map relRow).flatten)) (r : Rd) (hr : RdB b H r) :
    partR r h = { r with l := r.l ++ F } ∧ RdB b H { r with l := r.l ++ F } := by
  refine ⟨?_, ⟨hr.hb, hr.hh, hr.he⟩⟩
  obtain ⟨c, cx⟩ := partC_ok g hr (by rw [ht]; omega)
  have hg := relR_back F r.l ((F.map relRow).flatten).length hF (by rw [rels_len hF]; omega)
  rw [partR, if_neg (by rw [ht]; omega), if_neg (by rw [ht]; omega), if_neg (by rw [ht]; omega), if_pos ht, c, cx, hr.he, hg]
/-! ### Symbols -/
theorem stands_in {b : Int} {h : Bool} {w v z n : Int} (hs : standsB b h w v z n = true) (hn : n ≤ 16) : b ≤ 2 ∧ -2 ≤ w ∧ w ≤ 16 ∧ -2147483648 ≤ v ∧ v ≤ 4294967296 ∧ 0 ≤ z ∧ z ≤ 4096 ∧ standsB b h w v z 16 = true := by
  have hs0 := hs
  unfold standsB at hs ⊢
  by_cases h1 : 2 < b ∨ (h = true ∧ b = 0)
  · rw [if_pos h1] at hs; cases hs
  rw [if_neg h1] at hs ⊢
  by_cases h2 : w = 0
  · rw [if_pos h2] at hs ⊢
    have hs2 := hs
    simp only [Bool.and_eq_true, beq_iff_eq] at hs2
    exact ⟨by omega, by omega, by omega, by omega, by omega, by omega, by omega, hs⟩
  rw [if_neg h2] at hs ⊢
  by_cases h3 : w = -1
  · rw [if_pos h3] at hs ⊢
    have hs2 := hs
    simp only [Bool.and_eq_true, beq_iff_eq, inB, decide_eq_true_eq] at hs2
    exact ⟨by omega, by omega, by omega, by omega, by omega, by omega, by omega, hs⟩
  rw [if_neg h3] at hs ⊢
  by_cases h4 : w = -2
  · rw [if_pos h4] at hs ⊢
    have hs2 := hs
    simp only [Bool.and_eq_true, beq_iff_eq, inB, alignOk, decide_eq_true_eq] at hs2
    exact ⟨by omega, by omega, by omega, by omega, by omega, by omega, by omega, hs⟩
  rw [if_neg h4] at hs ⊢
  simp only [Bool.and_eq_true, inB, decide_eq_true_eq] at hs
  refine ⟨by omega, by omega, by omega, by omega, by omega, by omega, by omega, ?_⟩
  simp only [Bool.and_eq_true, inB, decide_eq_true_eq]
  omega
theorem symB_eq (p b : Int) (h : Bool) (w v z : Int) : symB p b h w v z = leB p 4 ++ ([[.int (b * 16)], [.int (if h then 2 else 0)]] ++ (leB (whereN w) 2 ++ (leB v 8 ++ leB z 8))) := by
  rw [symB]; simp only [List.append_assoc]
theorem symB_len (p b : Int) (h : Bool) (w v z : Int) : (symB p b h w v z).length = 24 := by
  rw [symB_eq]; simp only [List.length_append, leB_len, List.length_cons, List.length_nil]
theorem symB_back {p b : Int} {h : Bool} {w v z n : Int} (hs : standsB b h w v z n = true) (hn : n ≤ 16) (b0 : 0 ≤ b) (p0 : 0 ≤ p) (p1 : p ≤ 65535) :
    symRe (symB p b h w v z) = 0 ∧ getV (symB p b h w v z) 0 4 = p ∧ ∀ nm, symOne (symB p b h w v z) nm = [.str nm, .int b, .bool h, .int w, .int v, .int z] := by
  obtain ⟨i1, i2, i3, i4, i5, i6, i7, i8⟩ := stands_in hs hn
  have hl := symB_len p b h w v z
  have t0 : Has (symB p b h w v z) 0 (leB p 4 ++ ([[.int (b * 16)], [.int (if h then 2 else 0)]] ++ (leB (whereN w) 2 ++ (leB v 8 ++ leB z 8)))) := by
    have := has_self (symB p b h w v z)
    conv at this => rhs; rw [symB_eq]
    exact this
  have t1 := has_tail t0 (leB_len _ _)
  have t2 := has_tail (l := 2) t1 rfl
  have t3 := has_tail t2 (leB_len _ _)
  have t4 := has_tail t3 (leB_len _ _)
  have hw : 0 ≤ whereN w ∧ whereN w ≤ 65522 ∧ (whereN w > 65520 → w = 65520 - whereN w) ∧ (¬ whereN w > 65520 → w = whereN w) := by
    unfold whereN
    split <;> omega
  have u0 : getV (symB p b h w v z) 0 4 = p := getV_f4 (has_head t0) (andT (decT p0) (decT (by omega))) rfl
  have u1 : getV (symB p b h w v z) 6 2 = whereN w := getV_has (k := 2) (has_head t2) rfl (by omega) (by rw [show (256 : Int) ^ 2 = 65536 from by decide]; omega) (by omega) rfl
  have u2 : getV (symB p b h w v z) 8 8 = v := getV_has64 (has_head t3) (by omega) (by omega) rfl
  have u3 : getV (symB p b h w v z) 16 8 = z := getV_has64 t4 (by omega) (by omega) rfl
  have c4 : cellI (symB p b h w v z) 4 0 = b * 16 := by
    rw [symB_eq, cellI_right (by rw [leB_len]; omega), leB_len]; rfl
  have c5 : cellI (symB p b h w v z) 5 0 = if h then 2 else 0 := by
    rw [symB_eq, cellI_right (by rw [leB_len]; omega), leB_len]; rfl
  have v1 : symRb (symB p b h w v z) = b := by
    rw [symRb, c4, Int.fdiv_eq_ediv_of_nonneg _ (by omega)]; omega
  have v2 : symRh (symB p b h w v z) = h := by
    rw [symRh, c5]; cases h <;> rfl
  have v3 : symRw (symB p b h w v z) = w := by
    rw [symRw, u1]
    by_cases hq : whereN w > 65520
    · rw [if_pos hq, wrap64 (by omega) (by omega)]; exact (hw.2.2.1 hq).symm
    · rw [if_neg hq]; exact (hw.2.2.2 hq).symm
  have s0 : symE sX b h w v z 16 = 0 := by
    rw [symE, if_neg (by decide), i8, if_pos]
    exact andT (by kernel_rfl) rfl
  have hin : inB p 0 65535 = true := andT (decT p0) (decT p1)
  have hw1 : symWok sX b h w v z p = true := by rw [symWok, s0, hin]; rfl
  have hw2 : symWE sX b h w v z p = 0 := by rw [symWE, if_pos s0, if_pos hin]
  have e0 : symRe (symB p b h w v z) = 0 := by
    rw [symRe, if_neg (by omega), u0, v1, v2, v3, u2, u3, hw2, if_pos hw1, if_neg (by simp), if_pos (same_self _)]
  exact ⟨e0, u0, fun nm => by rw [symOne, v1, v2, v3, u2, u3]⟩
structure SymOk (P : List (List D)) (i : Nat) (e : List D) : Prop where
  sh : ∃ s b h w v z, e = [D.str s, .int b, .bool h, .int w, .int v, .int z] ∧ symE s b h w v z 16 = 0 ∧ standsB b h w v z 16 = true ∧ 0 ≤ b
  p0 : 0 ≤ cellI P i 0
  p1 : cellI P i 0 ≤ 65535
theorem symRow_eq {P : List (List D)} {i : Nat} {e : List D} (h : SymOk P i e) : (symRow e (cellI P i 0)).length = 24 ∧ symRe (symRow e (cellI P i 0)) = 0 ∧ getV (symRow e (cellI P i 0)) 0 4 = cellI P i 0 ∧ symOne (symRow e (cellI P i 0)) (rS e 0) = e := by
  obtain ⟨⟨s, b, h, w, v, z, rfl, hE, hS, b0⟩, p0, p1⟩ := h
  have e0 : symRow [D.str s, .int b, .bool h, .int w, .int v, .int z] (cellI P i 0) = symB (cellI P i 0) b h w v z := by
    refine if_pos ?_
    show symWok s b h w v z (cellI P i 0) = true
    rw [symWok, hE]
    exact andT rfl (andT (decT p0) (decT p1))
  rw [e0]
  obtain ⟨q1, q2, q3⟩ := symB_back hS (by omega) b0 p0 p1
  exact ⟨symB_len _ _ _ _ _ _, q1, q2, q3 s⟩
theorem symR_back {b H P Y : List (List D)} (hn : ∀ (i : Nat) e, Y[i]? = some e → ∀ r, RdB b H r → nameS r (r.h.length - 2) (cellI P i 0) = rS e 0 ∧ nameE r (r.h.length - 2) (cellI P i 0) = 0) :
    ∀ (t A : List (List D)) (i d : Nat) (r : Rd), (∀ (j : Nat) e, t[j]? = some e → Y[i + j]? = some e ∧ SymOk P (i + j) e) → RdB b H r → t.length ≤ d → symR (A ++ symsF P t i) d (A.length : Nat) r = { r with y := r.y ++ t }
  | [], A, i, d, r, _, hr, _ => by
    have e1 : (A ++ symsF P [] i).length = A.length := by rw [show symsF P [] i = [] from rfl, List.append_nil]
    cases d with
    | zero => rw [symR, List.append_nil]
    | succ d => rw [symR, if_neg (by rw [e1]; omega), List.append_nil]
  | e :: t, A, i, d, r, hY, hr, hd => by
    obtain ⟨y0, ok⟩ := hY 0 e rfl
    rw [Nat.add_zero] at y0 ok
    obtain ⟨q1, q2, q3, q4⟩ := symRow_eq ok
    obtain ⟨n1, n2⟩ := hn i e y0 r hr
    rw [List.length_cons] at hd
    cases d with
    | zero => omega
    | succ d =>
      have ex : A ++ symsF P (e :: t) i = A ++ (symRow e (cellI P i 0) ++ symsF P t (i + 1)) := rfl
      have hc : cut (A ++ (symRow e (cellI P i 0) ++ symsF P t (i + 1))) (A.length : Nat) ((A.length : Nat) + 24) = symRow e (cellI P i 0) := cut_mid A _ _ _ _ rfl (by rw [q1]; rfl)
      have hr2 : RdB b H { r with y := r.y ++ [e] } := ⟨hr.hb, hr.hh, hr.he⟩
      have ih := symR_back hn t (A ++ symRow e (cellI P i 0)) (i + 1) d { r with y := r.y ++ [e] } (fun j e' hj => by
        have := hY (j + 1) e' hj
        rw [show i + (j + 1) = i + 1 + j from by omega] at this
        exact this) hr2 (by omega)
      rw [ex, symR, if_pos ⟨by rw [List.length_append, List.length_append, q1]; omega, hr.he⟩, hc, q2, if_neg (by simp), q3, n1, n2, q4]
      rw [show ((A.length : Nat) : Int) + 24 = ((A ++ symRow e (cellI P i 0)).length : Nat) from by rw [List.length_append, q1]; omega]
      rw [show ({ r with y := r.y ++ [e], e := 0 } : Rd) = { r with y := r.y ++ [e] } from by have := hr.he; cases r; simp only at this; subst this; rfl]
      rw [List.append_assoc] at ih
      rw [ih]
      simp only [List.append_assoc, List.cons_append, List.nil_append]
theorem symsF_ge {P : List (List D)} : ∀ {t : List (List D)} {i : Nat}, (∀ (j : Nat) e, t[j]? = some e → SymOk P (i + j) e) → t.length ≤ (symsF P t i).length
  | [], i, _ => Nat.zero_le _
  | e :: t, i, h => by
    have h0 := (symRow_eq (h 0 e rfl)).1
    rw [Nat.add_zero] at h0
    have := symsF_ge (P := P) (t := t) (i := i + 1) (fun j e' hj => by
      have := h (j + 1) e' hj
      rw [show i + (j + 1) = i + 1 + j from by omega] at this
      exact this)
    rw [symsF, List.length_append, h0, List.length_cons]; omega
theorem step_sym {b H P Y : List (List D)} {h : Hd} {nm : ByteArray} (hn : ∀ (i : Nat) e, Y[i]? = some e → ∀ r, RdB b H r → nameS r (r.h.length - 2) (cellI P i 0) = rS e 0 ∧ nameE r (r.h.length - 2) (cellI P i 0) = 0) (ok : ∀ (j : Nat) e, Y[j]? = some e → SymOk P j e) (ht : h.type = 2) (g : GdH b H h nm (zeros 24 ++ symsF P Y 0)) (r : Rd) (hr : RdB b H r) :
    partR r h = { r with y := r.y ++ Y } ∧ RdB b H { r with y := r.y ++ Y } := by
  refine ⟨?_, ⟨hr.hb, hr.hh, hr.he⟩⟩
  obtain ⟨c, cx⟩ := partC_ok g hr (by rw [ht]; omega)
  have hz : (((zeros 24).length : Nat) : Int) = 24 := rfl
  have hg := symR_back hn Y (zeros 24) 0 (zeros 24 ++ symsF P Y 0).length r (fun j e hj => by
    rw [Nat.zero_add]; exact ⟨hj, ok j e hj⟩) hr (by
      have := symsF_ge (P := P) (t := Y) (i := 0) (fun j e hj => by rw [Nat.zero_add]; exact ok j e hj)
      rw [List.length_append]; omega)
  rw [hz] at hg
  rw [partR, if_neg (by rw [ht]; omega), if_neg (by rw [ht]; omega), if_neg (by rw [ht]; omega), if_neg (by rw [ht]; omega), if_pos ht, c, cx, hg]
theorem step_tab {b H : List (List D)} {h : Hd} {nm : ByteArray} {x : List (List D)} (ht : h.type = 3) (g : GdH b H h nm x) (r : Rd) (hr : RdB b H r) : partR r h = r ∧ RdB b H r := by
  refine ⟨?_, hr⟩
  obtain ⟨c, cx⟩ := partC_ok g hr (by rw [ht]; omega)
  rw [partR, if_neg (by rw [ht]; omega), if_neg (by rw [ht]; omega), if_neg (by rw [ht]; omega), if_neg (by rw [ht]; omega), if_neg (by rw [ht]; omega), c]
end Go.Proofs.Ytkcopbnaleiocaa.Ev
