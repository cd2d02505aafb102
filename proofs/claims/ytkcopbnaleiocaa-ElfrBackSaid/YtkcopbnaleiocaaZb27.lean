/- A part of the proof: what the statement needs, and nothing else. -/
import Derived.Test.YtkcopbnaleiocaaZb26
namespace Go.Proofs.Ytkcopbnaleiocaa.Ev
open Go
set_option linter.unusedVariables false
set_option linter.unusedSimpArgs false
def Has (b : List (List D)) (o : Nat) (x : List (List D)) : Prop := ∃ A B, b = A ++ (x ++ B) ∧ A.length = o
theorem has_app {b x : List (List D)} {o : Nat} (h : Has b o x) (c : List (List D)) : Has (b ++ c) o x := by
  obtain ⟨A, B, rfl, hl⟩ := h
  exact ⟨A, B ++ c, by simp only [List.append_assoc], hl⟩
theorem has_cut {b x : List (List D)} {o : Nat} (h : Has b o x) : cut b (o : Nat) ((o : Nat) + (x.length : Nat)) = x := by
  obtain ⟨A, B, rfl, rfl⟩ := h
  exact cut_mid A x B _ _ rfl rfl
theorem has_le {b x : List (List D)} {o : Nat} (h : Has b o x) : o + x.length ≤ b.length := by
  obtain ⟨A, B, rfl, rfl⟩ := h
  simp only [List.length_append]; omega
theorem has_cutOk {b x : List (List D)} {o : Nat} (h : Has b o x) : cutOk b (o : Nat) (x.length : Nat) 0 = true := by
  have hl := has_le h
  exact andT (andT (andT (andT (decT rfl) (decT (by omega))) (decT (by omega))) (decT (by omega))) (decT (by omega))
theorem has_cutV {b x : List (List D)} {o : Nat} (h : Has b o x) : cutV b (o : Nat) (x.length : Nat) 0 = x := by
  rw [cutV, if_pos (has_cutOk h), has_cut h]
theorem has_cutE {b x : List (List D)} {o : Nat} (h : Has b o x) : cutE b (o : Nat) (x.length : Nat) 0 = 0 := by
  rw [cutE, if_pos (has_cutOk h)]
theorem has_first {b x F : List (List D)} {o : Nat} (h : Has b o x) (ho : 64 ≤ o) (hF : F.length = 64) : Has (F ++ b.drop 64) o x := by
  obtain ⟨A, B, rfl, rfl⟩ := h
  refine ⟨F ++ A.drop 64, B, ?_, ?_⟩
  · rw [List.drop_append_of_le_length ho, List.append_assoc]
  · rw [List.length_append, List.length_drop]; omega
theorem has_head {b x y : List (List D)} {o : Nat} (h : Has b o (x ++ y)) : Has b o x := by
  obtain ⟨A, B, rfl, rfl⟩ := h
  exact ⟨A, y ++ B, by simp only [List.append_assoc], rfl⟩
theorem has_tail {b x y : List (List D)} {o l : Nat} (h : Has b o (x ++ y)) (hl : x.length = l) : Has b (o + l) y := by
  obtain ⟨A, B, rfl, rfl⟩ := h
  exact ⟨A ++ x, B, by simp only [List.append_assoc], by rw [List.length_append, hl]⟩
theorem has_self (x : List (List D)) : Has x 0 x := ⟨[], [], by simp, rfl⟩
theorem getV_has {b : List (List D)} {o k : Nat} {n a : Int} (h : Has b o (leB n k)) (hk : siz k = true) (h0 : 0 ≤ n) (h1 : n < 256 ^ k) (h2 : n < 9223372036854775808) (ha : a = (o : Nat)) : getV b a k = n := by
  obtain ⟨A, B, rfl, rfl⟩ := h
  exact getV_mid hk h0 h1 h2 ha
theorem wrap_mod {n : Int} (h1 : -9223372036854775808 ≤ n) (h2 : n < 9223372036854775808) : IntKind.wrap .i64 (n % 18446744073709551616) = n := by
  have e : IntKind.wrap .i64 (n % 18446744073709551616) = IntKind.wrap .i64 n := by
    simp [IntKind.wrap, IntKind.bits, IntKind.signed]
  rw [e, wrap64 h1 (by omega)]
theorem getV_has64 {b : List (List D)} {o : Nat} {n a : Int} (h : Has b o (leB n 8)) (h1 : -9223372036854775808 ≤ n) (h2 : n < 9223372036854775808) (ha : a = (o : Nat)) : getV b a 8 = n := by
  obtain ⟨A, B, rfl, rfl⟩ := h
  have e0 : getE (A ++ (leB n 8 ++ B)) a 8 = 0 := by
    unfold getE
    rw [show siz 8 = true from rfl]
    simp only [Bool.not_true, Bool.false_eq_true, if_false]
    rw [if_neg]
    rw [List.length_append, List.length_append, leB_len]
    omega
  rw [getV, if_pos e0, cut_mid A (leB n 8) B a _ ha (by rw [leB_len, ha]; rfl), leN_leB]
  exact wrap_mod h1 h2
def NameAt (t : List (List D)) (a : Int) (s : ByteArray) : Prop := ∃ o : Nat, a = (o : Nat) ∧ Has t o (bytesRow s ++ [[.int 0]])
theorem name_app {t : List (List D)} {a : Int} {s : ByteArray} (h : NameAt t a s) (c : List (List D)) : NameAt (t ++ c) a s := by
  obtain ⟨o, e, h⟩ := h
  exact ⟨o, e, has_app h c⟩
theorem ix_name : ∀ (l r : List UInt8), l.all okCh = true → Lib.indexByte (l ++ 0 :: r) 0 = (l.length : Nat)
  | [], r, _ => by rw [List.nil_append, ix_cons, if_pos rfl]; rfl
  | b :: l, r, h => by
    simp only [List.all_cons, Bool.and_eq_true] at h
    rw [List.cons_append, ix_cons, if_neg (okCh_ne h.1), ix_name l r h.2, if_neg (by omega), List.length_cons]; omega
theorem rowB_app (a b : List (List D)) : rowB (a ++ b) = rowB a ++ rowB b := by simp [rowB_eq]
theorem rowB_row (s : ByteArray) : rowB (bytesRow s) = s.data.toList := by
  rw [rowB_eq, bytesRow, List.map_map]
  have : ∀ l : List UInt8, l.map ((fun e : List D => UInt8.ofNat (e.getD 0 default).toInt.toNat) ∘ fun b => [D.int (b.toNat : Int)]) = l := by
    intro l
    induction l with
    | nil => rfl
    | cons b l ih => rw [List.map_cons, ih]; simp [D.toInt]
  exact this _
theorem rowBytes_row (s : ByteArray) : rowBytes (bytesRow s) = s := by
  apply ByteArray.ext
  apply Array.ext'
  have h1 : (rowBytes (bytesRow s)).data.toList = rowB (bytesRow s) := by rw [rowB_eq]; simp [rowBytes]
  rw [h1, rowB_row]
theorem get_name {t : List (List D)} {a : Int} {s : ByteArray} (h : NameAt t a s) (hs : graph s = true) (hc : chkR t = 0) : getS t a = s ∧ getSE t a = 0 := by
  obtain ⟨o, rfl, A, B, rfl, rfl⟩ := h
  have hn : ¬ (chkR (A ++ (bytesRow s ++ [[.int 0]] ++ B)) ≠ 0 ∨ ((A.length : Nat) : Int) < 0 ∨ (((A ++ (bytesRow s ++ [[D.int 0]] ++ B)).length : Nat) : Int) ≤ (A.length : Nat)) := by
    rw [hc]
    simp only [List.length_append, List.length_cons, List.length_nil, ne_eq, not_true_eq_false, false_or, not_or]
    omega
  refine ⟨?_, by rw [getSE, if_neg hn]⟩
  have e1 : cut (A ++ (bytesRow s ++ [[.int 0]] ++ B)) (A.length : Nat) ((A ++ (bytesRow s ++ [[D.int 0]] ++ B)).length : Nat) = bytesRow s ++ [[.int 0]] ++ B := by
    unfold cut
    rw [Int.toNat_natCast, Int.toNat_natCast, List.drop_left, List.take_of_length_le (by simp only [List.length_append, List.length_cons, List.length_nil]; omega)]
  have e2 : ixB (rowB (bytesRow s ++ [[.int 0]] ++ B)) 0 = (s.size : Nat) := by
    rw [rowB_app, rowB_app, rowB_row, List.append_assoc]
    have := ix_name s.data.toList (rowB B) hs
    have hz : s.data.toList.length = s.size := by rw [Array.length_toList]; rfl
    rw [hz] at this
    exact this
  rw [getS, if_neg hn, e1, e2, List.append_assoc, cut_mid A (bytesRow s) ([[D.int 0]] ++ B) _ _ rfl (by rw [bytesRow_length]), rowBytes_row]
theorem key_is (s s' : ByteArray) : keyIs .str (.string s) (.str s') = decide (s = s') := ba_eq s s'
theorem find_set (s s' : ByteArray) (n : List D) (hn : n.getD 0 default = .str s) : ∀ m : List (List D), findRow .str (.string s') (setRow .str (.string s) n m) = if s' = s then some n else findRow .str (.string s') m
  | [] => by
    show (if keyIs .str (.string s') (n.getD 0 default) = true then some n else none) = _
    rw [hn, key_is]
    by_cases h : s' = s
    · rw [decT h, if_pos rfl, if_pos h]
    · rw [decF h, if_neg (by simp), if_neg h]; rfl
  | e :: t => by
    have key : keyIs .str (.string s) (e.getD 0 default) = decide (s = (e.getD 0 default).toStr) := ba_eq _ _
    have key' : keyIs .str (.string s') (e.getD 0 default) = decide (s' = (e.getD 0 default).toStr) := ba_eq _ _
    have fe : findRow .str (.string s') (e :: t) = if keyIs .str (.string s') (e.getD 0 default) = true then some e else findRow .str (.string s') t := rfl
    unfold setRow
    by_cases h : s = (e.getD 0 default).toStr
    · rw [key, decT h, if_pos rfl]
      have fn : findRow .str (.string s') (n :: t) = if keyIs .str (.string s') (n.getD 0 default) = true then some n else findRow .str (.string s') t := rfl
      rw [fn, hn, key_is, fe, key', ← h]
      by_cases h' : s' = s
      · rw [decT h', if_pos rfl, if_pos h']
      · rw [decF h', if_neg (by simp), if_neg h', if_neg (by simp)]
    · rw [key, decF h, if_neg (by simp)]
      have fn : findRow .str (.string s') (e :: setRow .str (.string s) n t) = if keyIs .str (.string s') (e.getD 0 default) = true then some e else findRow .str (.string s') (setRow .str (.string s) n t) := rfl
      rw [fn, find_set s s' n hn t, fe, key']
      by_cases h' : s' = s
      · rw [if_pos h', if_pos h', decF (by rw [h']; exact h), if_neg (by simp)]
      · rw [if_neg h', if_neg h']
def TabOk (t : List (List D)) : Prop := 0 < t.length ∧ cellI t 0 0 = 0 ∧ cellI t (t.length - 1) 0 = 0
theorem bldGo_at : ∀ (ns : List ByteArray) (t m p : List (List D)), (∀ s ∈ ns, nmG 40 s) → t.length + 41 * ns.length ≤ 65536 → (∀ s e, findRow .str (.string s) m = some e → NameAt t (e.getD 1 default).toInt s) → TabOk t →
    ∃ c q, bldGo ns t m p = ⟨t ++ c, p ++ q, 0⟩ ∧ TabOk (t ++ c) ∧ q.length = ns.length ∧ ∀ (i : Nat) s, ns[i]? = some s → NameAt (t ++ c) (cellI q i 0) s
  | [], t, m, p, _, h, hm, ht => by
    simp only [List.length_nil, Nat.mul_zero, Nat.add_zero] at h
    refine ⟨[], [], by rw [bldGo, if_neg (by omega), List.append_nil, List.append_nil], by rw [List.append_nil]; exact ht, rfl, fun i s hi => by simp at hi⟩
  | s :: r, t, m, p, hs, h, hm, ht => by
    have h1 := hs s List.mem_cons_self
    have h2 := graph_ix h1.2
    have h3 := h1.1
    simp only [List.length_cons] at h
    have key : ∀ (t' m' : List (List D)) (a : Int), t'.length + 41 * r.length ≤ 65536 → (∀ s e, findRow .str (.string s) m' = some e → NameAt t' (e.getD 1 default).toInt s) → TabOk t' → (∃ c0, t' = t ++ c0) → NameAt t' a s →
        ∃ c q, bldGo r t' m' (p ++ [[.int a]]) = ⟨t ++ c, p ++ q, 0⟩ ∧ TabOk (t ++ c) ∧ q.length = (s :: r).length ∧ ∀ (i : Nat) s', (s :: r)[i]? = some s' → NameAt (t ++ c) (cellI q i 0) s' := by
      rintro t' m' a hl hm' ht' ⟨c0, rfl⟩ hn
      obtain ⟨c, q, e1, e2, e3, e4⟩ := bldGo_at r (t ++ c0) m' (p ++ [[.int a]]) (fun s h => hs s (List.mem_cons_of_mem _ h)) hl hm' ht'
      refine ⟨c0 ++ c, [.int a] :: q, by rw [e1]; simp only [List.append_assoc, List.cons_append, List.nil_append], by rw [← List.append_assoc]; exact e2, by simp only [List.length_cons, e3], fun i s' hi => ?_⟩
      rw [← List.append_assoc]
      cases i with
      | zero => cases hi; exact name_app hn c
      | succ i => exact e4 i s' hi
    rw [bldGo, if_neg (by omega)]
    split
    · rename_i hh
      obtain ⟨e, he⟩ := Option.isSome_iff_exists.1 hh
      refine key t m _ (by omega) hm ht ⟨[], by rw [List.append_nil]⟩ ?_
      have := hm s e he
      rw [lookD, he]
      exact this
    · have hl : (t ++ bytesRow s ++ [[D.int 0]]).length = t.length + s.size + 1 := by rw [List.length_append, List.length_append, bytesRow_length]; rfl
      have hn : NameAt (t ++ bytesRow s ++ [[D.int 0]]) (t.length : Nat) s := ⟨t.length, rfl, t, [], by simp only [List.append_assoc, List.append_nil], rfl⟩
      refine key _ _ _ (by rw [hl]; omega) (fun s' e he => ?_) ⟨by omega, ?_, ?_⟩ ⟨bytesRow s ++ [[.int 0]], by rw [List.append_assoc]⟩ hn
      · rw [find_set s s' _ rfl] at he
        split at he
        · rename_i h'; cases he; rw [h']; exact hn
        · rw [List.append_assoc]; exact name_app (hm s' e he) _
      · rw [List.append_assoc, cellI_left ht.1]; exact ht.2.1
      · rw [hl, cellI_right (by rw [List.length_append, bytesRow_length]; omega), List.length_append, bytesRow_length, show t.length + s.size + 1 - 1 - (t.length + s.size) = 0 from by omega]; rfl
theorem bldR_at {xs : List (List D)} (h : nmAll xs) (hl : xs.length ≤ 1000) : chkR (bldR xs).t = 0 ∧ ∀ (i : Nat) e, xs[i]? = some e → NameAt (bldR xs).t (cellI (bldR xs).p i 0) (rS e 0) := by
  obtain ⟨c, q, e1, e2, e3, e4⟩ := bldGo_at (namesOf xs) [[.int 0]] [[.str .empty, .int 0]] [] (fun s hs => by
    obtain ⟨e, he, rfl⟩ := List.mem_map.1 hs
    exact h e he) (by simp only [namesOf, List.length_map, List.length_cons, List.length_nil]; omega) (fun s e he => by
      have : findRow .str (.string s) [[.str .empty, .int 0]] = if s = .empty then some [.str .empty, .int 0] else none := by
        show (if keyIs .str (.string s) (.str .empty) = true then _ else _) = _
        rw [key_is]
        by_cases hs : s = .empty
        · rw [decT hs, if_pos rfl, if_pos hs]
        · rw [decF hs, if_neg (by simp), if_neg hs]; rfl
      rw [this] at he
      split at he
      · rename_i hs; cases he; subst hs
        exact ⟨0, rfl, [], [], by rfl, rfl⟩
      · cases he) ⟨by decide, rfl, rfl⟩
  have e0 : bldR xs = ⟨[[.int 0]] ++ c, [] ++ q, 0⟩ := by rw [bldR, if_neg (by omega), e1]
  have h6 := (bldR_ok h hl).2.1
  rw [e0] at h6 ⊢
  refine ⟨?_, fun i e hi => e4 i (rS e 0) (by rw [namesOf, List.getElem?_map, hi]; rfl)⟩
  rw [chkR, if_neg]
  rintro (h' | h' | h' | h')
  · exact absurd h' (Nat.ne_of_gt e2.1)
  · omega
  · exact h' e2.2.1
  · exact h' e2.2.2
theorem bldR_get {xs : List (List D)} (h : nmAll xs) (hl : xs.length ≤ 1000) {i : Nat} {e : List D} (hi : xs[i]? = some e) : getS (bldR xs).t (cellI (bldR xs).p i 0) = rS e 0 ∧ getSE (bldR xs).t (cellI (bldR xs).p i 0) = 0 := by
  obtain ⟨h1, h2⟩ := bldR_at h hl
  exact get_name (h2 i e hi) (h e (List.mem_of_getElem? hi)).2 h1
def s8 (n : Int) : Bool := decide (0 ≤ n) && decide (n < 9223372036854775808)
def Hd.okS (h : Hd) : Bool := f4 h.name && f4 h.type && s8 h.flags && s8 h.addr && s8 h.offset && s8 h.size && f4 h.link && f4 h.info && s8 h.align && s8 h.entry
theorem getV_f4 {b : List (List D)} {o : Nat} {n a : Int} (h : Has b o (leB n 4)) (hn : f4 n = true) (ha : a = (o : Nat)) : getV b a 4 = n := by
  simp only [f4, Bool.and_eq_true, decide_eq_true_eq] at hn
  exact getV_has (k := 4) h rfl hn.1 (by rw [show (256 : Int) ^ 4 = 4294967296 from by decide]; exact hn.2) (by omega) ha
theorem getV_s8 {b : List (List D)} {o : Nat} {n a : Int} (h : Has b o (leB n 8)) (hn : s8 n = true) (ha : a = (o : Nat)) : getV b a 8 = n := by
  simp only [s8, Bool.and_eq_true, decide_eq_true_eq] at hn
  exact getV_has64 h (by omega) hn.2 ha
theorem hd_back {h : Hd} (hk : h.okS = true) : hdN h.b = h := by
  simp only [Hd.okS, Bool.and_eq_true] at hk
  obtain ⟨⟨⟨⟨⟨⟨⟨⟨⟨k0, k1⟩, k2⟩, k3⟩, k4⟩, k5⟩, k6⟩, k7⟩, k8⟩, k9⟩ := hk
  have t0 : Has h.b 0 (leB h.name 4 ++ (leB h.type 4 ++ (leB h.flags 8 ++ (leB h.addr 8 ++ (leB h.offset 8 ++ (leB h.size 8 ++ (leB h.link 4 ++ (leB h.info 4 ++ (leB h.align 8 ++ leB h.entry 8))))))))) := by
    have := has_self h.b
    simp only [Hd.b, List.append_assoc] at this ⊢
    exact this
  have t1 := has_tail t0 (leB_len _ _)
  have t2 := has_tail t1 (leB_len _ _)
  have t3 := has_tail t2 (leB_len _ _)
  have t4 := has_tail t3 (leB_len _ _)
  have t5 := has_tail t4 (leB_len _ _)
  have t6 := has_tail t5 (leB_len _ _)
  have t7 := has_tail t6 (leB_len _ _)
  have t8 := has_tail t7 (leB_len _ _)
  have t9 := has_tail t8 (leB_len _ _)
  have u0 : getV h.b 0 4 = h.name := getV_f4 (has_head t0) k0 rfl
  have u1 : getV h.b 4 4 = h.type := getV_f4 (has_head t1) k1 rfl
  have u2 : getV h.b 8 8 = h.flags := getV_s8 (has_head t2) k2 rfl
  have u3 : getV h.b 16 8 = h.addr := getV_s8 (has_head t3) k3 rfl
  have u4 : getV h.b 24 8 = h.offset := getV_s8 (has_head t4) k4 rfl
  have u5 : getV h.b 32 8 = h.size := getV_s8 (has_head t5) k5 rfl
  have u6 : getV h.b 40 4 = h.link := getV_f4 (has_head t6) k6 rfl
  have u7 : getV h.b 44 4 = h.info := getV_f4 (has_head t7) k7 rfl
  have u8 : getV h.b 48 8 = h.align := getV_s8 (has_head t8) k8 rfl
  have u9 : getV h.b 56 8 = h.entry := getV_s8 t9 k9 rfl
  unfold hdN
  rw [u0, u1, u2, u3, u4, u5, u6, u7, u8, u9]
theorem hd_ok8 {h : Hd} (hk : h.okS = true) : h.ok8 = true := by
  simp only [Hd.okS, f4, s8, Bool.and_eq_true, decide_eq_true_eq] at hk
  simp only [Hd.ok8, Bool.and_eq_true, decide_eq_true_eq]
  omega
theorem hd_ok1 {h : Hd} (hk : h.okS = true) : h.ok = true := by
  simp only [Hd.okS, f4, s8, Bool.and_eq_true, decide_eq_true_eq] at hk
  simp only [Hd.ok, f4, f8, Bool.and_eq_true, decide_eq_true_eq]
  omega
theorem hd_rv {h : Hd} (hk : h.okS = true) : hdRV h.b = h ∧ hdRE h.b = 0 := by
  have e := hd_back hk
  have e8 := hd_ok8 hk
  constructor
  · rw [hdRV, if_pos (by rw [hdRok, hd_len, e, e8]; rfl), e]
  · rw [hdRE, if_pos (hd_len h), e, e8]; rfl
end Go.Proofs.Ytkcopbnaleiocaa.Ev
namespace Go.Proofs.Ytkcopbnaleiocaa.Ev
open Go
set_option linter.unusedVariables false
set_option linter.unusedSimpArgs false
structure Pt where
  nm : ByteArray
  hd : Hd
  x : List (List D)
def partsF (f : Fl) (ps : List Pt) : Fl := ps.foldl (fun f p => partF f p.nm p.hd p.x) f
def secP (m : List (List D)) : List (List D) → Nat → List Pt
  | [], _ => []
  | e :: t, i => ⟨rS e 0, secHd m i e, rA e 2⟩ :: secP m t (i + 1)
def grpP (N : Int) (G : List (List D)) : List Pt := G.map fun e => ⟨sGrp ++ rS e 0, ⟨0, 17, 0, 0, 0, 0, N, 0, 4, 4⟩, numsB 4 [[.int 1]] ++ numsB 4 (rA e 1)⟩
def relP (N : Int) (S : List (List D)) : List (List D) → Nat → List Pt
  | [], _ => []
  | e :: t, i => (if 0 < (rA e 0).length then [⟨sRel ++ rS (S.getD i []) 0, ⟨0, 4, 64, 0, 0, 0, N, ((i + 1 : Nat) : Int), 8, 24⟩, rA e 0⟩] else []) ++ relP N S t (i + 1)
def symP (S Y L G : List (List D)) : Pt := ⟨sSym, ⟨0, 2, 0, 0, 0, 0, ((symFirst S L G + 1 : Nat) : Int), ((locals Y + 1 : Nat) : Int), 8, 24⟩, zeros 24 ++ symsF (bldR (namesY Y)).p Y 0⟩
def strP (Y : List (List D)) : Pt := ⟨sStr, ⟨0, 3, 0, 0, 0, 0, 0, 0, 1, 0⟩, (bldR (namesY Y)).t⟩
def shsP (S Y L G : List (List D)) : Pt := ⟨sShs, ⟨0, 3, 0, 0, 0, 0, 0, 0, 1, 0⟩, (wrTb S Y L G).t⟩
def datP (S L G : List (List D)) : List Pt := secP (grpMap G []) S 0 ++ (grpP (symFirst S L G) G ++ relP (symFirst S L G) S (byS S.length L) 0)
def allP (S Y L G : List (List D)) : List Pt := datP S L G ++ [symP S Y L G, strP Y, shsP S Y L G]
theorem partsF_app (f : Fl) (a b : List Pt) : partsF f (a ++ b) = partsF (partsF f a) b := List.foldl_append
theorem secsF_parts {m : List (List D)} : ∀ (S : List (List D)) (i : Nat) (f : Fl), secsF m S i f = partsF f (secP m S i)
  | [], i, f => rfl
  | e :: t, i, f => by rw [secsF, secsF_parts t]; rfl
theorem grpsF_parts (N : Int) : ∀ (G : List (List D)) (f : Fl), grpsF N G f = partsF f (grpP N G)
  | [], f => rfl
  | e :: t, f => grpsF_parts N t _
theorem relsF_parts (N : Int) (S : List (List D)) : ∀ (W : List (List D)) (i : Nat) (f : Fl), relsF N S W i f = partsF f (relP N S W i)
  | [], i, f => rfl
  | e :: t, i, f => by
    rw [relsF, relsF_parts N S t, relP, partsF_app]
    by_cases h : 0 < (rA e 0).length
    · rw [if_pos h, if_pos h]; rfl
    · rw [if_neg h, if_neg h]; rfl
theorem wrF2_parts (S Y L G : List (List D)) : wrF2 S Y L G = partsF ⟨zeros 64, [], []⟩ (datP S L G ++ [symP S Y L G, strP Y]) := by
  rw [wrF2, secsF_parts, restF, grpsF_parts, relsF_parts, datP, partsF_app, partsF_app, partsF_app]; rfl
theorem wrF3_parts (S Y L G : List (List D)) : wrF3 S Y L G = partsF ⟨zeros 64, [], []⟩ (allP S Y L G) := by
  rw [wrF3, wrF2_parts, allP, partsF_app, partsF_app]; rfl
def Pt.put (p : Pt) (o : Nat) : Hd := { p.hd with offset := (o : Nat), size := if p.hd.type = 8 then p.hd.size else (p.x.length : Nat) }
inductive Pl (b : List (List D)) : List Pt → List Hd → Prop
  | nil : Pl b [] []
  | cons {p : Pt} {ps : List Pt} {hs : List Hd} (o : Nat) (ho : 64 ≤ o) (h : Has b o p.x) (t : Pl b ps hs) : Pl b (p :: ps) (p.put o :: hs)
theorem pl_mono {b b' : List (List D)} (m : ∀ o x, 64 ≤ o → Has b o x → Has b' o x) : ∀ {ps : List Pt} {hs : List Hd}, Pl b ps hs → Pl b' ps hs
  | _, _, .nil => .nil
  | _, _, .cons o ho h t => .cons o ho (m o _ ho h) (pl_mono m t)
theorem placed : ∀ (ps : List Pt) (f : Fl), (∀ p ∈ ps, padOk p.hd.align = true) → 64 ≤ f.b.length → ∃ hs c, (partsF f ps).b = f.b ++ c ∧ (partsF f ps).heads = f.heads ++ hs.map Hd.row ∧ Pl (partsF f ps).b ps hs ∧ (partsF f ps).names = f.names ++ ps.map fun p => [.str p.nm]
  | [], f, _, _ => ⟨[], [], (List.append_nil _).symm, (List.append_nil _).symm, .nil, (List.append_nil _).symm⟩
  | p :: t, f, ha, hf => by
    have hp := ha p List.mem_cons_self
    have hb : padB f.b p.hd.align = f.b ++ zeros (padN f.b.length p.hd.align).toNat := by rw [padB, if_pos hp]
    have hb1 : (partF f p.nm p.hd p.x).b = padB f.b p.hd.align ++ p.x := rfl
    have hge := partF_ge f p.nm p.hd p.x hp
    obtain ⟨hs, c, e1, e2, e3, e4⟩ := placed t (partF f p.nm p.hd p.x) (fun q hq => ha q (List.mem_cons_of_mem _ hq)) (by omega)
    have e0 : partsF f (p :: t) = partsF (partF f p.nm p.hd p.x) t := rfl
    rw [e0]
    refine ⟨p.put (padB f.b p.hd.align).length :: hs, (zeros (padN f.b.length p.hd.align).toNat ++ p.x) ++ c, ?_, ?_, ?_, ?_⟩
    · rw [e1, hb1, hb]; simp only [List.append_assoc]
    · rw [e2]; simp only [partF, List.append_assoc, List.map_cons, List.cons_append, List.nil_append]; rfl
    · refine .cons _ ?_ ?_ e3
      · rw [hb, List.length_append]; omega
      · rw [e1, hb1]
        exact has_app ⟨padB f.b p.hd.align, [], by rw [List.append_nil], rfl⟩ c
    · rw [e4]; simp only [partF, List.append_assoc, List.map_cons, List.cons_append, List.nil_append]
theorem pl_app {b : List (List D)} : ∀ {a c : List Pt} {hs : List Hd}, Pl b (a ++ c) hs → ∃ h1 h2, hs = h1 ++ h2 ∧ Pl b a h1 ∧ Pl b c h2
  | [], c, hs, h => ⟨[], hs, rfl, .nil, h⟩
  | p :: a, c, _, .cons o ho h t => by
    obtain ⟨h1, h2, rfl, k1, k2⟩ := pl_app t
    exact ⟨p.put o :: h1, h2, rfl, .cons o ho h k1, k2⟩
def nmd (P : List (List D)) : List Hd → Nat → List Hd
  | [], _ => []
  | h :: t, i => { h with name := cellI P i 0 } :: nmd P t (i + 1)
theorem nmd_app (P : List (List D)) : ∀ (a b : List Hd) (i : Nat), nmd P (a ++ b) i = nmd P a i ++ nmd P b (i + a.length)
  | [], b, i => rfl
  | h :: t, b, i => by rw [List.cons_append, nmd, nmd_app P t b, nmd, List.cons_append, List.length_cons, show i + 1 + t.length = i + (t.length + 1) from by omega]
theorem nmd_len (P : List (List D)) : ∀ (a : List Hd) (i : Nat), (nmd P a i).length = a.length
  | [], i => rfl
  | h :: t, i => by rw [nmd, List.length_cons, nmd_len P t, List.length_cons]
theorem headsF_nmd {P : List (List D)} : ∀ (hs : List Hd) (i : Nat), (∀ h ∈ nmd P hs i, h.okS = true) → headsF P (hs.map Hd.row) i = ((nmd P hs i).map Hd.b).flatten
  | [], i, _ => rfl
  | h :: t, i, hk => by
    have h0 := hk { h with name := cellI P i 0 } List.mem_cons_self
    have e0 : hdOf h.row (cellI P i 0) = { h with name := cellI P i 0 } := rfl
    rw [List.map_cons, headsF, headsF_nmd t (i + 1) (fun q hq => hk q (List.mem_cons_of_mem _ hq)), e0, hdB, if_pos (hd_ok1 h0)]; rfl
def Pt.okS (p : Pt) : Bool := f4 p.hd.type && s8 p.hd.flags && s8 p.hd.addr && s8 p.hd.size && f4 p.hd.link && f4 p.hd.info && s8 p.hd.align && s8 p.hd.entry
theorem nmd_ok {b P : List (List D)} (hP : ∀ i, 0 ≤ cellI P i 0 ∧ cellI P i 0 ≤ 65535) (hb : b.length ≤ 1048576) : ∀ {ps : List Pt} {hs : List Hd} (i : Nat), Pl b ps hs → (∀ p ∈ ps, p.okS = true) → ∀ h ∈ nmd P hs i, h.okS = true
  | _, _, i, .nil, _, h, hh => by cases hh
  | _, _, i, .cons (p := p) (hs := hs) o ho hx t, hk, h, hh => by
    rcases List.mem_cons.1 hh with rfl | hh
    · have hl := has_le hx
      have h1 := hk p List.mem_cons_self
      have h2 := hP i
      simp only [Pt.okS, Bool.and_eq_true] at h1
      obtain ⟨⟨⟨⟨⟨⟨⟨k1, k2⟩, k3⟩, k4⟩, k5⟩, k6⟩, k7⟩, k8⟩ := h1
      refine andT (andT (andT (andT (andT (andT (andT (andT (andT (andT (decT h2.1) (decT (show cellI P i 0 < 4294967296 by omega))) k1) k2) k3) (andT (decT (show (0 : Int) ≤ (o : Nat) by omega)) (decT (show ((o : Nat) : Int) < 9223372036854775808 by omega)))) ?_) k5) k6) k7) k8
      show s8 (if p.hd.type = 8 then p.hd.size else (p.x.length : Nat)) = true
      split
      · exact k4
      · exact andT (decT (by omega)) (decT (by omega))
    · exact nmd_ok hP hb (i + 1) t (fun q hq => hk q (List.mem_cons_of_mem _ hq)) h hh
theorem wrap_at {p i : Nat} (h : p + 64 * i ≤ 1048576) : IntKind.wrap .i64 (((p : Nat) : Int) + IntKind.wrap .i64 (((i : Nat) : Int) * 64)) = ((p + 64 * i : Nat) : Int) := by
  rw [wrap64 (n := (i : Int) * 64) (by omega) (by omega), wrap64 (by omega) (by omega)]; omega
theorem all_go {b : List (List D)} {p : Nat} (hb : b.length ≤ 1048576) : ∀ (hs : List Hd) (i : Nat) (r : Rd), r.b = b → r.e = 0 → (∀ h ∈ hs, h.okS = true) → Has b (p + 64 * i) (hs.map Hd.b).flatten → allGo (p : Nat) hs.length i r = { r with h := r.h ++ hs.map Hd.row }
  | [], i, r, _, _, _, _ => by cases r; simp [allGo]
  | h :: t, i, r, rb, re, hk, hh => by
    have h0 := hk h List.mem_cons_self
    have h1 : Has b (p + 64 * i) h.b := has_head (y := (t.map Hd.b).flatten) hh
    have h2 : Has b (p + 64 * (i + 1)) (t.map Hd.b).flatten := by
      have := has_tail (x := h.b) (y := (t.map Hd.b).flatten) hh (hd_len h)
      rw [show p + 64 * (i + 1) = p + 64 * i + 64 from by omega]; exact this
    have hl := has_le h1
    rw [hd_len] at hl
    have e1 : cutV b ((p + 64 * i : Nat) : Int) 64 0 = h.b := by
      have := has_cutV h1
      rw [hd_len] at this
      exact this
    have e2 : cutE b ((p + 64 * i : Nat) : Int) 64 0 = 0 := by
      have := has_cutE h1
      rw [hd_len] at this
      exact this
    have ex : allX r.b (p : Nat) i r.e = h.b := by rw [allX, wrap_at (by omega), rb, re, e1]
    have eo : allOne (p : Nat) i r = { r with h := r.h ++ [h.row] } := by
      rw [allOne, ex, (hd_rv h0).1, (hd_rv h0).2, if_neg (by simp), wrap_at (by omega), rb, re, e2]
    rw [List.length_cons, allGo, if_pos re, eo, all_go hb t (i + 1) { r with h := r.h ++ [h.row] } rb re (fun q hq => hk q (List.mem_cons_of_mem _ hq)) h2]
    simp only [List.append_assoc, List.map_cons, List.cons_append, List.nil_append]
end Go.Proofs.Ytkcopbnaleiocaa.Ev
namespace Go.Proofs.Ytkcopbnaleiocaa.Ev
open Go
set_option linter.unusedVariables false
set_option linter.unusedSimpArgs false
structure RdB (b H : List (List D)) (r : Rd) : Prop where
  hb : r.b = b
  hh : r.h = H
  he : r.e = 0
inductive Eff (b H : List (List D)) : List Hd → List (Rd → Rd) → Prop
  | nil : Eff b H [] []
  | cons {h : Hd} {hs : List Hd} {ε : Rd → Rd} {es : List (Rd → Rd)} (s : ∀ r, RdB b H r → partR r h = ε r ∧ RdB b H (ε r)) (t : Eff b H hs es) : Eff b H (h :: hs) (ε :: es)
theorem eff_app {b H : List (List D)} : ∀ {hs hs' : List Hd} {es es' : List (Rd → Rd)}, Eff b H hs es → Eff b H hs' es' → Eff b H (hs ++ hs') (es ++ es')
  | _, _, _, _, .nil, h => h
  | _, _, _, _, .cons s t, h => .cons s (eff_app t h)
def runE (es : List (Rd → Rd)) (r : Rd) : Rd := es.foldl (fun r ε => ε r) r
theorem runE_app (a b : List (Rd → Rd)) (r : Rd) : runE (a ++ b) r = runE b (runE a r) := List.foldl_append
theorem go_eff {b H : List (List D)} : ∀ {hs : List Hd} {es : List (Rd → Rd)}, Eff b H hs es → ∀ (i d : Nat) (r : Rd), RdB b H r → H.drop i = hs.map Hd.row → hs.length ≤ d → partsGo d i r = runE es r
  | _, _, .nil, i, d, r, hr, hd, hl => by
    have := drop_nil hd
    cases d with
    | zero => rfl
    | succ d => rw [partsGo, if_neg (by rw [hr.hh]; omega)]; rfl
  | _, _, .cons (h := h) (ε := ε) s t, i, d, r, hr, hd, hl => by
    rw [List.length_cons] at hl
    cases d with
    | zero => omega
    | succ d =>
      obtain ⟨h1, h2, h3⟩ := drop_cons hd
      obtain ⟨s1, s2⟩ := s r hr
      rw [partsGo, if_pos ⟨by rw [hr.hh]; exact h1, hr.he⟩, hr.hh, h2, show hdRow h.row = h from rfl, s1]
      exact go_eff t (i + 1) d (ε r) s2 h3 (by omega)
structure GdH (b H : List (List D)) (h : Hd) (nm : ByteArray) (x : List (List D)) : Prop where
  nm : ∀ r, RdB b H r → nameS r (r.h.length - 1) h.name = nm ∧ nameE r (r.h.length - 1) h.name = 0
  dat : h.type ≠ 8 → ∃ o : Nat, h.offset = (o : Nat) ∧ h.size = (x.length : Nat) ∧ Has b o x
theorem rd_eta {r : Rd} {n : Int} (h : r.e = 0) (hn : n = 0) : ({ r with e := n } : Rd) = r := by
  cases r; simp only at h; subst h; subst hn; rfl
theorem partN_ok {b H : List (List D)} {h : Hd} {nm : ByteArray} {x : List (List D)} (g : GdH b H h nm x) {r : Rd} (hr : RdB b H r) : partN r h = r := rd_eta hr.he (g.nm r hr).2
theorem partC_ok {b H : List (List D)} {h : Hd} {nm : ByteArray} {x : List (List D)} (g : GdH b H h nm x) {r : Rd} (hr : RdB b H r) (ht : h.type ≠ 8) : partC r h = r ∧ partX r h = x := by
  obtain ⟨o, e1, e2, e3⟩ := g.dat ht
  have e := partN_ok g hr
  constructor
  · rw [partC, e]
    exact rd_eta hr.he (by rw [e1, e2, hr.hb, hr.he, has_cutE e3])
  · rw [partX, e, e1, e2, hr.hb, hr.he, has_cutV e3]
theorem step_sec {b H : List (List D)} {h : Hd} {s : ByteArray} {a z : Int} {x : List (List D)} (hk : secOk s a (x.length : Nat) z = true) (ht : h.type = if kindV s = 4 then 8 else 1) (ha : h.align = a) (hz : kindV s = 4 → h.size = z) (g : GdH b H h s x) (r : Rd) (hr : RdB b H r) :
    partR r h = { r with s := r.s ++ [[.str s, .int a, .arr x, .int z]] } ∧ RdB b H { r with s := r.s ++ [[.str s, .int a, .arr x, .int z]] } := by
  refine ⟨?_, ⟨hr.hb, hr.hh, hr.he⟩⟩
  unfold secOk at hk
  by_cases k : kindV s = 4
  · rw [if_pos k] at hk ht
    simp only [Bool.and_eq_true, decide_eq_true_eq] at hk
    have hx : x = [] := List.eq_nil_of_length_eq_zero (by omega)
    rw [partR, if_pos ht, partN_ok g hr, (g.nm r hr).1, ha, hz k, hx]
  · rw [if_neg k] at hk ht
    simp only [Bool.and_eq_true, decide_eq_true_eq] at hk
    obtain ⟨c, cx⟩ := partC_ok g hr (by rw [ht]; omega)
    have z0 : z = 0 := hk.2.1
    rw [partR, if_neg (by rw [ht]; omega), if_pos ht, c, cx, (g.nm r hr).1, ha, z0]
theorem cutName_grp (s : ByteArray) : cutName (sGrp ++ s) = s := by
  have hz : (sGrp ++ s).size = 7 + s.size := by rw [ByteArray.size_append]; rfl
  rw [cutName, hz, if_neg (by omega)]
  apply ByteArray.ext
  apply Array.ext'
  rw [ByteArray.data_extract, ByteArray.data_append, Array.toList_extract, Array.toList_append]
  have h7 : sGrp.data.toList.length = 7 := rfl
  have hs : s.data.toList.length = s.size := by rw [Array.length_toList]; rfl
  simp only [List.extract, show Int.toNat 7 = 7 from rfl]
  rw [show (7 : Nat) = sGrp.data.toList.length from rfl, List.drop_left, List.take_of_length_le (by omega)]
theorem put4 {n : Int} (h0 : 0 ≤ n) (h1 : n < 4294967296) : putB n 4 = leB n 4 := by
  have : putOk n 4 = true := by simp [putOk, siz]; omega
  rw [putB, if_pos this]; rfl
theorem grpR_back : ∀ (l A acc : List (List D)) (d : Nat), (∀ e ∈ l, ∃ n, e = [D.int n] ∧ 0 ≤ n ∧ n < 4294967296) → l.length ≤ d → grpR (A ++ numsB 4 l) d (A.length : Nat) 0 acc = (acc ++ l, 0)
  | [], A, acc, d, _, _ => by
    have : (A ++ numsB 4 []).length = A.length := by rw [show numsB 4 [] = [] from rfl, List.append_nil]
    cases d with
    | zero => rw [grpR, List.append_nil]
    | succ d => rw [grpR, if_neg (by rw [this]; omega), List.append_nil]
  | e :: t, A, acc, d, hl, hd => by
    obtain ⟨n, rfl, n0, n1⟩ := hl e List.mem_cons_self
    rw [List.length_cons] at hd
    cases d with
    | zero => omega
    | succ d =>
      have ex : A ++ numsB 4 ([D.int n] :: t) = A ++ (leB n 4 ++ numsB 4 t) := by
        rw [show numsB 4 ([D.int n] :: t) = putB n 4 ++ numsB 4 t from rfl, put4 n0 n1]
      have ex2 : A ++ (leB n 4 ++ numsB 4 t) = (A ++ leB n 4) ++ numsB 4 t := by rw [List.append_assoc]
      have hlen : (A ++ (leB n 4 ++ numsB 4 t)).length = A.length + 4 + (numsB 4 t).length := by rw [List.length_append, List.length_append, leB_len]; omega
      have hv : getV (A ++ (leB n 4 ++ numsB 4 t)) (A.length : Nat) 4 = n := getV_f4 ⟨A, numsB 4 t, rfl, rfl⟩ (andT (decT n0) (decT n1)) rfl
      have he : numE (A ++ (leB n 4 ++ numsB 4 t)) (A.length : Nat) 4 0 = 0 := by
        have : getE (A ++ (leB n 4 ++ numsB 4 t)) (A.length : Nat) 4 = 0 := by
          unfold getE
          rw [show siz 4 = true from rfl]
          simp only [Bool.not_true, Bool.false_eq_true, if_false]
          rw [if_neg]; rw [hlen]; omega
        rw [numE, this, if_neg (by simp)]
      rw [ex, grpR, if_pos (by rw [hlen]; omega), hv, he]
      have ih := grpR_back t (A ++ leB n 4) (acc ++ [[.int n]]) d (fun q hq => hl q (List.mem_cons_of_mem _ hq)) (by omega)
      rw [← ex2] at ih
      rw [show ((A.length : Nat) : Int) + 4 = ((A ++ leB n 4).length : Nat) from by rw [List.length_append, leB_len]; omega, ih, List.append_assoc]; rfl
theorem numsB_ge {l : List (List D)} : (∀ e ∈ l, ∃ n, e = [D.int n] ∧ 0 ≤ n ∧ n < 4294967296) → l.length ≤ (numsB 4 l).length := by
  induction l with
  | nil => intro _; exact Nat.zero_le _
  | cons e t ih =>
    intro hl
    obtain ⟨n, rfl, n0, n1⟩ := hl e List.mem_cons_self
    have := ih (fun q hq => hl q (List.mem_cons_of_mem _ hq))
    rw [show numsB 4 ([D.int n] :: t) = putB n 4 ++ numsB 4 t from rfl, put4 n0 n1, List.length_append, leB_len, List.length_cons]; omega
theorem step_grp {b H : List (List D)} {h : Hd} {s : ByteArray} {l : List (List D)} (ht : h.type = 17) (hl : ∀ e ∈ l, ∃ n, e = [D.int n] ∧ 0 ≤ n ∧ n < 4294967296) (g : GdH b H h (sGrp ++ s) (numsB 4 [[.int 1]] ++ numsB 4 l)) (r : Rd) (hr : RdB b H r) :
    partR r h = { r with g := r.g ++ [[.str s, .arr l]] } ∧ RdB b H { r with g := r.g ++ [[.str s, .arr l]] } := by
  refine ⟨?_, ⟨hr.hb, hr.hh, hr.he⟩⟩
  obtain ⟨c, cx⟩ := partC_ok g hr (by rw [ht]; omega)
  have hg := grpR_back l (numsB 4 [[.int 1]]) [] (numsB 4 [[.int 1]] ++ numsB 4 l).length hl (by rw [List.length_append]; have := numsB_ge hl; omega)
  have h4 : (((numsB 4 [[.int 1]]).length : Nat) : Int) = 4 := rfl
  rw [h4, List.nil_append] at hg
  rw [partR, if_neg (by rw [ht]; omega), if_neg (by rw [ht]; omega), if_pos ht, c, cx, (g.nm r hr).1, cutName_grp, hr.he, hg]
theorem wrap8 {n : Int} (h0 : 0 ≤ n) (h1 : n ≤ 255) : IntKind.wrap .u8 n = n := by
  have : IntKind.wrap .u8 n = n % 256 := by simp [IntKind.wrap, IntKind.bits, IntKind.signed]
  rw [this]; omega
theorem same_self (x : List (List D)) : sameB x x = true := by rw [sameB, bytes_eq]; exact decT rfl
theorem relB_eq {b k c d : Int} (h : relWok b k c d = true) (k0 : 0 ≤ k) (k1 : k ≤ 255) : relB b k c d = leB b 8 ++ (leB k 4 ++ (leB (c + 1) 4 ++ leB d 8)) := by
  simp only [relWok, Bool.and_eq_true, decide_eq_true_eq] at h
  rw [relB, wrap64 (n := k) (by omega) (by omega), wrap64 (n := c + 1) (by omega) (by omega), putB8, putB8, put4 k0 (by omega), put4 (by omega) (by omega)]
  simp only [List.append_assoc]
theorem relB_len {b k c d : Int} (h : relWok b k c d = true) (k0 : 0 ≤ k) (k1 : k ≤ 255) : (relB b k c d).length = 24 := by
  rw [relB_eq h k0 k1]; simp only [List.length_append, leB_len]
theorem relB_back {b k c d : Int} (h : relWok b k c d = true) (k0 : 0 ≤ k) (k1 : k ≤ 255) : relRe (relB b k c d) = 0 ∧ ∀ info, relOne (relB b k c d) info = [.int info, .int b, .int k, .int c, .int d] := by
  have hw := h
  simp only [relWok, Bool.and_eq_true, decide_eq_true_eq] at h
  have hl := relB_len hw k0 k1
  have t0 : Has (relB b k c d) 0 (leB b 8 ++ (leB k 4 ++ (leB (c + 1) 4 ++ leB d 8))) := by
    have := has_self (relB b k c d)
    conv at this => rhs; rw [relB_eq hw k0 k1]
    exact this
  have t1 := has_tail t0 (leB_len _ _)
  have t2 := has_tail t1 (leB_len _ _)
  have t3 := has_tail t2 (leB_len _ _)
  have u0 : getV (relB b k c d) 0 8 = b := getV_has64 (has_head t0) (by omega) (by omega) rfl
  have u1 : getV (relB b k c d) 8 4 = k := getV_f4 (has_head t1) (andT (decT k0) (decT (by omega))) rfl
  have u2 : getV (relB b k c d) 12 4 = c + 1 := getV_f4 (has_head t2) (andT (decT (by omega)) (decT (by omega))) rfl
  have u3 : getV (relB b k c d) 16 8 = d := getV_has64 t3 (by omega) (by omega) rfl
  have v1 : relRk (relB b k c d) = k := by rw [relRk, u1, wrap8 k0 k1]
  have v2 : relRc (relB b k c d) = c := by rw [relRc, u2, wrap64 (by omega) (by omega)]; omega
  have e0 : relRe (relB b k c d) = 0 := by
    rw [relRe, if_neg (by omega), u0, v1, v2, u3, if_pos hw, if_pos (same_self _)]
  refine ⟨e0, fun info => ?_⟩
  rw [relOne, e0, u0, v1, v2, u3]; rfl
def RelOk (info : Int) (e : List D) : Prop := ∃ b k c d, e = [D.int info, .int b, .int k, .int c, .int d] ∧ relWok b k c d = true ∧ 0 ≤ k ∧ k ≤ 255
theorem relRow_eq {info : Int} {e : List D} (h : RelOk info e) : (relRow e).length = 24 ∧ relRe (relRow e) = 0 ∧ relOne (relRow e) info = e := by
  obtain ⟨b, k, c, d, rfl, hw, k0, k1⟩ := h
  have e0 : relRow [D.int info, .int b, .int k, .int c, .int d] = relB b k c d := if_pos hw
  rw [e0]
  exact ⟨relB_len hw k0 k1, (relB_back hw k0 k1).1, (relB_back hw k0 k1).2 info⟩
theorem relR_back {info : Int} : ∀ (F acc : List (List D)) (d : Nat), (∀ e ∈ F, RelOk info e) → F.length ≤ d → relR info d ((F.map relRow).flatten) 0 acc = (acc ++ F, 0)
  | [], acc, d, _, _ => by
    cases d with
    | zero => rw [relR, List.append_nil]
    | succ d => rw [relR, if_neg (by simp), List.append_nil]
  | e :: t, acc, d, hF, hd => by
    obtain ⟨h1, h2, h3⟩ := relRow_eq (hF e List.mem_cons_self)
    rw [List.length_cons] at hd
    cases d with
    | zero => omega
    | succ d =>
      have e1 : ((e :: t).map relRow).flatten = relRow e ++ (t.map relRow).flatten := rfl
      have e2 : (relRow e ++ (t.map relRow).flatten).take 24 = relRow e := by rw [← h1, List.take_left]
      have e3 : (relRow e ++ (t.map relRow).flatten).drop 24 = (t.map relRow).flatten := by rw [← h1, List.drop_left]
      rw [e1, relR, if_pos (by rw [List.length_append]; omega), e2, e3, h2, h3, if_neg (by simp), relR_back t _ d (fun q hq => hF q (List.mem_cons_of_mem _ hq)) (by omega), List.append_assoc]; rfl
theorem rels_len {info : Int} : ∀ {F : List (List D)}, (∀ e ∈ F, RelOk info e) → ((F.map relRow).flatten).length = 24 * F.length
  | [], _ => rfl
  | e :: t, hF => by
    have := rels_len (F := t) (fun q hq => hF q (List.mem_cons_of_mem _ hq))
    rw [show ((e :: t).map relRow).flatten = relRow e ++ (t.map relRow).flatten from rfl, List.length_append, (relRow_eq (hF e List.mem_cons_self)).1, this, List.length_cons]; omega
theorem step_rel {b H : List (List D)} {h : Hd} {nm : ByteArray} {F : List (List D)} (ht : h.type = 4) (hF : ∀ e ∈ F, RelOk h.info e) (g : GdH b H h nm ((F.map relRow).flatten)) (r : Rd) (hr : RdB b H r) :
    partR r h = { r with l := r.l ++ F } ∧ RdB b H { r with l := r.l ++ F } := by
  refine ⟨?_, ⟨hr.hb, hr.hh, hr.he⟩⟩
  obtain ⟨c, cx⟩ := partC_ok g hr (by rw [ht]; omega)
  have hg := relR_back F r.l ((F.map relRow).flatten).length hF (by rw [rels_len hF]; omega)
  rw [partR, if_neg (by rw [ht]; omega), if_neg (by rw [ht]; omega), if_neg (by rw [ht]; omega), if_pos ht, c, cx, hr.he, hg]
theorem stands_in {b : Int} {h : Bool} {w v z n : Int} (hs : standsB b h w v z n = true) (hn : n ≤ 16) : b ≤ 2 ∧ -2 ≤ w ∧ w ≤ 16 ∧ -2147483648 ≤ v ∧ v ≤ 4294967296 ∧ 0 ≤ z ∧ z ≤ 4096 ∧ standsB b h w v z 16 = true := by
  have hs0 := hs
  unfold standsB at hs ⊢
  by_cases h1 : 2 < b ∨ (h = true ∧ b = 0)
  · rw [if_pos h1] at hs; cases hs
  rw [if_neg h1] at hs ⊢
  by_cases h2 : w = 0
  · rw [if_pos h2] at hs ⊢
    have hs2 := hs
    simp only [Bool.and_eq_true, beq_iff_eq] at hs2
    exact ⟨by omega, by omega, by omega, by omega, by omega, by omega, by omega, hs⟩
  rw [if_neg h2] at hs ⊢
  by_cases h3 : w = -1
  · rw [if_pos h3] at hs ⊢
    have hs2 := hs
    simp only [Bool.and_eq_true, beq_iff_eq, inB, decide_eq_true_eq] at hs2
    exact ⟨by omega, by omega, by omega, by omega, by omega, by omega, by omega, hs⟩
  rw [if_neg h3] at hs ⊢
  by_cases h4 : w = -2
  · rw [if_pos h4] at hs ⊢
    have hs2 := hs
    simp only [Bool.and_eq_true, beq_iff_eq, inB, alignOk, decide_eq_true_eq] at hs2
    exact ⟨by omega, by omega, by omega, by omega, by omega, by omega, by omega, hs⟩
  rw [if_neg h4] at hs ⊢
  simp only [Bool.and_eq_true, inB, decide_eq_true_eq] at hs
  refine ⟨by omega, by omega, by omega, by omega, by omega, by omega, by omega, ?_⟩
  simp only [Bool.and_eq_true, inB, decide_eq_true_eq]
  omega
theorem symB_eq (p b : Int) (h : Bool) (w v z : Int) : symB p b h w v z = leB p 4 ++ ([[.int (b * 16)], [.int (if h then 2 else 0)]] ++ (leB (whereN w) 2 ++ (leB v 8 ++ leB z 8))) := by
  rw [symB]; simp only [List.append_assoc]
theorem symB_len (p b : Int) (h : Bool) (w v z : Int) : (symB p b h w v z).length = 24 := by
  rw [symB_eq]; simp only [List.length_append, leB_len, List.length_cons, List.length_nil]
theorem symB_back {p b : Int} {h : Bool} {w v z n : Int} (hs : standsB b h w v z n = true) (hn : n ≤ 16) (b0 : 0 ≤ b) (p0 : 0 ≤ p) (p1 : p ≤ 65535) :
    symRe (symB p b h w v z) = 0 ∧ getV (symB p b h w v z) 0 4 = p ∧ ∀ nm, symOne (symB p b h w v z) nm = [.str nm, .int b, .bool h, .int w, .int v, .int z] := by
  obtain ⟨i1, i2, i3, i4, i5, i6, i7, i8⟩ := stands_in hs hn
  have hl := symB_len p b h w v z
  have t0 : Has (symB p b h w v z) 0 (leB p 4 ++ ([[.int (b * 16)], [.int (if h then 2 else 0)]] ++ (leB (whereN w) 2 ++ (leB v 8 ++ leB z 8)))) := by
    have := has_self (symB p b h w v z)
    conv at this => rhs; rw [symB_eq]
    exact this
  have t1 := has_tail t0 (leB_len _ _)
  have t2 := has_tail (l := 2) t1 rfl
  have t3 := has_tail t2 (leB_len _ _)
  have t4 := has_tail t3 (leB_len _ _)
  have hw : 0 ≤ whereN w ∧ whereN w ≤ 65522 ∧ (whereN w > 65520 → w = 65520 - whereN w) ∧ (¬ whereN w > 65520 → w = whereN w) := by
    unfold whereN
    split <;> omega
  have u0 : getV (symB p b h w v z) 0 4 = p := getV_f4 (has_head t0) (andT (decT p0) (decT (by omega))) rfl
  have u1 : getV (symB p b h w v z) 6 2 = whereN w := getV_has (k := 2) (has_head t2) rfl (by omega) (by rw [show (256 : Int) ^ 2 = 65536 from by decide]; omega) (by omega) rfl
  have u2 : getV (symB p b h w v z) 8 8 = v := getV_has64 (has_head t3) (by omega) (by omega) rfl
  have u3 : getV (symB p b h w v z) 16 8 = z := getV_has64 t4 (by omega) (by omega) rfl
  have c4 : cellI (symB p b h w v z) 4 0 = b * 16 := by
    rw [symB_eq, cellI_right (by rw [leB_len]; omega), leB_len]; rfl
  have c5 : cellI (symB p b h w v z) 5 0 = if h then 2 else 0 := by
    rw [symB_eq, cellI_right (by rw [leB_len]; omega), leB_len]; rfl
  have v1 : symRb (symB p b h w v z) = b := by
    rw [symRb, c4, Int.fdiv_eq_ediv_of_nonneg _ (by omega)]; omega
  have v2 : symRh (symB p b h w v z) = h := by
    rw [symRh, c5]; cases h <;> rfl
  have v3 : symRw (symB p b h w v z) = w := by
    rw [symRw, u1]
    by_cases hq : whereN w > 65520
    · rw [if_pos hq, wrap64 (by omega) (by omega)]; exact (hw.2.2.1 hq).symm
    · rw [if_neg hq]; exact (hw.2.2.2 hq).symm
  have s0 : symE sX b h w v z 16 = 0 := by
    rw [symE, if_neg (by decide), i8, if_pos]
    exact andT (by kernel_rfl) rfl
  have hin : inB p 0 65535 = true := andT (decT p0) (decT p1)
  have hw1 : symWok sX b h w v z p = true := by rw [symWok, s0, hin]; rfl
  have hw2 : symWE sX b h w v z p = 0 := by rw [symWE, if_pos s0, if_pos hin]
  have e0 : symRe (symB p b h w v z) = 0 := by
    rw [symRe, if_neg (by omega), u0, v1, v2, v3, u2, u3, hw2, if_pos hw1, if_neg (by simp), if_pos (same_self _)]
  exact ⟨e0, u0, fun nm => by rw [symOne, v1, v2, v3, u2, u3]⟩
structure SymOk (P : List (List D)) (i : Nat) (e : List D) : Prop where
  sh : ∃ s b h w v z, e = [D.str s, .int b, .bool h, .int w, .int v, .int z] ∧ symE s b h w v z 16 = 0 ∧ standsB b h w v z 16 = true ∧ 0 ≤ b
  p0 : 0 ≤ cellI P i 0
  p1 : cellI P i 0 ≤ 65535
theorem symRow_eq {P : List (List D)} {i : Nat} {e : List D} (h : SymOk P i e) : (symRow e (cellI P i 0)).length = 24 ∧ symRe (symRow e (cellI P i 0)) = 0 ∧ getV (symRow e (cellI P i 0)) 0 4 = cellI P i 0 ∧ symOne (symRow e (cellI P i 0)) (rS e 0) = e := by
  obtain ⟨⟨s, b, h, w, v, z, rfl, hE, hS, b0⟩, p0, p1⟩ := h
  have e0 : symRow [D.str s, .int b, .bool h, .int w, .int v, .int z] (cellI P i 0) = symB (cellI P i 0) b h w v z := by
    refine if_pos ?_
    show symWok s b h w v z (cellI P i 0) = true
    rw [symWok, hE]
    exact andT rfl (andT (decT p0) (decT p1))
  rw [e0]
  obtain ⟨q1, q2, q3⟩ := symB_back hS (by omega) b0 p0 p1
  exact ⟨symB_len _ _ _ _ _ _, q1, q2, q3 s⟩
theorem symR_back {b H P Y : List (List D)} (hn : ∀ (i : Nat) e, Y[i]? = some e → ∀ r, RdB b H r → nameS r (r.h.length - 2) (cellI P i 0) = rS e 0 ∧ nameE r (r.h.length - 2) (cellI P i 0) = 0) :
    ∀ (t A : List (List D)) (i d : Nat) (r : Rd), (∀ (j : Nat) e, t[j]? = some e → Y[i + j]? = some e ∧ SymOk P (i + j) e) → RdB b H r → t.length ≤ d → symR (A ++ symsF P t i) d (A.length : Nat) r = { r with y := r.y ++ t }
  | [], A, i, d, r, _, hr, _ => by
    have e1 : (A ++ symsF P [] i).length = A.length := by rw [show symsF P [] i = [] from rfl, List.append_nil]
    cases d with
    | zero => rw [symR, List.append_nil]
    | succ d => rw [symR, if_neg (by rw [e1]; omega), List.append_nil]
  | e :: t, A, i, d, r, hY, hr, hd => by
    obtain ⟨y0, ok⟩ := hY 0 e rfl
    rw [Nat.add_zero] at y0 ok
    obtain ⟨q1, q2, q3, q4⟩ := symRow_eq ok
    obtain ⟨n1, n2⟩ := hn i e y0 r hr
    rw [List.length_cons] at hd
    cases d with
    | zero => omega
    | succ d =>
      have ex : A ++ symsF P (e :: t) i = A ++ (symRow e (cellI P i 0) ++ symsF P t (i + 1)) := rfl
      have hc : cut (A ++ (symRow e (cellI P i 0) ++ symsF P t (i + 1))) (A.length : Nat) ((A.length : Nat) + 24) = symRow e (cellI P i 0) := cut_mid A _ _ _ _ rfl (by rw [q1]; rfl)
      have hr2 : RdB b H { r with y := r.y ++ [e] } := ⟨hr.hb, hr.hh, hr.he⟩
      have ih := symR_back hn t (A ++ symRow e (cellI P i 0)) (i + 1) d { r with y := r.y ++ [e] } (fun j e' hj => by
        have := hY (j + 1) e' hj
        rw [show i + (j + 1) = i + 1 + j from by omega] at this
        exact this) hr2 (by omega)
      rw [ex, symR, if_pos ⟨by rw [List.length_append, List.length_append, q1]; omega, hr.he⟩, hc, q2, if_neg (by simp), q3, n1, n2, q4]
      rw [show ((A.length : Nat) : Int) + 24 = ((A ++ symRow e (cellI P i 0)).length : Nat) from by rw [List.length_append, q1]; omega]
      rw [show ({ r with y := r.y ++ [e], e := 0 } : Rd) = { r with y := r.y ++ [e] } from by have := hr.he; cases r; simp only at this; subst this; rfl]
      rw [List.append_assoc] at ih
      rw [ih]
      simp only [List.append_assoc, List.cons_append, List.nil_append]
theorem symsF_ge {P : List (List D)} : ∀ {t : List (List D)} {i : Nat}, (∀ (j : Nat) e, t[j]? = some e → SymOk P (i + j) e) → t.length ≤ (symsF P t i).length
  | [], i, _ => Nat.zero_le _
  | e :: t, i, h => by
    have h0 := (symRow_eq (h 0 e rfl)).1
    rw [Nat.add_zero] at h0
    have := symsF_ge (P := P) (t := t) (i := i + 1) (fun j e' hj => by
      have := h (j + 1) e' hj
      rw [show i + (j + 1) = i + 1 + j from by omega] at this
      exact this)
    rw [symsF, List.length_append, h0, List.length_cons]; omega
theorem step_sym {b H P Y : List (List D)} {h : Hd} {nm : ByteArray} (hn : ∀ (i : Nat) e, Y[i]? = some e → ∀ r, RdB b H r → nameS r (r.h.length - 2) (cellI P i 0) = rS e 0 ∧ nameE r (r.h.length - 2) (cellI P i 0) = 0) (ok : ∀ (j : Nat) e, Y[j]? = some e → SymOk P j e) (ht : h.type = 2) (g : GdH b H h nm (zeros 24 ++ symsF P Y 0)) (r : Rd) (hr : RdB b H r) :
    partR r h = { r with y := r.y ++ Y } ∧ RdB b H { r with y := r.y ++ Y } := by
  refine ⟨?_, ⟨hr.hb, hr.hh, hr.he⟩⟩
  obtain ⟨c, cx⟩ := partC_ok g hr (by rw [ht]; omega)
  have hz : (((zeros 24).length : Nat) : Int) = 24 := rfl
  have hg := symR_back hn Y (zeros 24) 0 (zeros 24 ++ symsF P Y 0).length r (fun j e hj => by
    rw [Nat.zero_add]; exact ⟨hj, ok j e hj⟩) hr (by
      have := symsF_ge (P := P) (t := Y) (i := 0) (fun j e hj => by rw [Nat.zero_add]; exact ok j e hj)
      rw [List.length_append]; omega)
  rw [hz] at hg
  rw [partR, if_neg (by rw [ht]; omega), if_neg (by rw [ht]; omega), if_neg (by rw [ht]; omega), if_neg (by rw [ht]; omega), if_pos ht, c, cx, hg]
theorem step_tab {b H : List (List D)} {h : Hd} {nm : ByteArray} {x : List (List D)} (ht : h.type = 3) (g : GdH b H h nm x) (r : Rd) (hr : RdB b H r) : partR r h = r ∧ RdB b H r := by
  refine ⟨?_, hr⟩
  obtain ⟨c, cx⟩ := partC_ok g hr (by rw [ht]; omega)
  rw [partR, if_neg (by rw [ht]; omega), if_neg (by rw [ht]; omega), if_neg (by rw [ht]; omega), if_neg (by rw [ht]; omega), if_neg (by rw [ht]; omega), c]
end Go.Proofs.Ytkcopbnaleiocaa.Ev
namespace Go.Proofs.Ytkcopbnaleiocaa.Ev
open Go
set_option linter.unusedVariables false
set_option linter.unusedSimpArgs false
theorem filt_split : ∀ (L : List (List D)) (v w : Int), L.Pairwise (fun a b => rI a 0 ≤ rI b 0) → v ≤ w →
    (L.filter fun e => rI e 0 == v) ++ (L.filter fun e => decide (v < rI e 0) && decide (rI e 0 ≤ w)) = L.filter fun e => decide (v ≤ rI e 0) && decide (rI e 0 ≤ w)
  | [], _, _, _, _ => rfl
  | a :: t, v, w, h, hv => by
    obtain ⟨h1, h2⟩ := List.pairwise_cons.1 h
    have ih := filt_split t v w h2 hv
    rcases Int.lt_trichotomy (rI a 0) v with q | q | q
    · rw [List.filter_cons_of_neg (by simp; omega), List.filter_cons_of_neg (by simp; omega), List.filter_cons_of_neg (by simp; omega), ih]
    · rw [List.filter_cons_of_pos (by simp [q]), List.filter_cons_of_neg (by simp; omega), List.filter_cons_of_pos (by simp; omega), List.cons_append, ih]
    · have e2 : (t.filter fun e => rI e 0 == v) = [] := List.filter_eq_nil_iff.2 fun e he => by
        have := h1 e he
        simp only [beq_iff_eq]; omega
      rw [e2, List.nil_append] at ih
      rw [List.filter_cons_of_neg (by simp; omega), e2, List.nil_append]
      by_cases q2 : rI a 0 ≤ w
      · rw [List.filter_cons_of_pos (by simp; omega), List.filter_cons_of_pos (by simp; omega), ih]
      · rw [List.filter_cons_of_neg (by simp; omega), List.filter_cons_of_neg (by simp; omega), ih]
def relF (L : List (List D)) : Nat → Nat → List (List D)
  | 0, _ => []
  | n + 1, i => (L.filter fun e => rI e 0 == ((i + 1 : Nat) : Int)) ++ relF L n (i + 1)
theorem relF_eq {L : List (List D)} (h : L.Pairwise (fun a b => rI a 0 ≤ rI b 0)) : ∀ (n i : Nat), relF L n i = L.filter fun e => decide ((i : Int) < rI e 0) && decide (rI e 0 ≤ (i : Int) + (n : Nat))
  | 0, i => by
    rw [relF]; symm
    refine List.filter_eq_nil_iff.2 fun e he => ?_
    simp only [Bool.and_eq_true, decide_eq_true_eq]; omega
  | n + 1, i => by
    rw [relF, relF_eq h n (i + 1)]
    refine (filt_split L ((i + 1 : Nat) : Int) (((i + 1 : Nat) : Int) + (n : Nat)) h (by omega)).trans (List.filter_congr fun e _ => ?_)
    congr 1 <;> exact decide_eq_decide.2 (by omega)
theorem relF_all {L : List (List D)} {n : Nat} (h : L.Pairwise (fun a b => rI a 0 ≤ rI b 0)) (hn : ∀ e ∈ L, 1 ≤ rI e 0 ∧ rI e 0 ≤ (n : Nat)) : relF L n 0 = L := by
  rw [relF_eq h]
  refine List.filter_eq_self.2 fun e he => ?_
  have := hn e he
  simp only [Bool.and_eq_true, decide_eq_true_eq]; omega
theorem rels_sorted {S L : List (List D)} {n : Int} : ∀ {t : List (List D)} {i : Nat}, relsGo S n L t i = true → L.drop i = t → ∀ (j : Nat) e, i ≤ j → L[j]? = some e → ∀ q ∈ L.take j, rI q 0 ≤ rI e 0
  | [], i, _, ht, j, e, hj, he => by
    have := drop_nil ht
    rw [List.getElem?_eq_none (by omega)] at he; cases he
  | x :: t, i, h, ht, j, e, hj, he => by
    obtain ⟨h1, h2, h3⟩ := drop_cons ht
    simp only [relsGo, Bool.and_eq_true] at h
    rcases Nat.eq_or_lt_of_le hj with rfl | hj
    · intro q hq
      have hx : e = x := by
        rw [List.getD_eq_getElem?_getD, he] at h2; exact h2
      subst hx
      have := List.all_eq_true.1 h.1.2 q hq
      simp only [relBad, Bool.not_eq_true', Bool.or_eq_false_iff, decide_eq_false_iff_not] at this
      omega
    · exact rels_sorted h.2 h3 j e (by omega) he
theorem rels_pw {S L : List (List D)} {n : Int} (h : relsGo S n L L 0 = true) : L.Pairwise (fun a b => rI a 0 ≤ rI b 0) := by
  refine List.pairwise_iff_getElem.2 fun i j hi hj hij => ?_
  refine rels_sorted h rfl j L[j] (by omega) (List.getElem?_eq_getElem hj) L[i] ?_
  refine List.mem_take_iff_getElem.2 ⟨i, by omega, rfl⟩
def effS (S : List (List D)) : List (Rd → Rd) := S.map fun e r => { r with s := r.s ++ [e] }
def effG (G : List (List D)) : List (Rd → Rd) := G.map fun e r => { r with g := r.g ++ [e] }
def effL (L : List (List D)) : List (List D) → Nat → List (Rd → Rd)
  | [], _ => []
  | e :: t, i => (if 0 < (rA e 0).length then [fun r => { r with l := r.l ++ L.filter fun e => rI e 0 == ((i + 1 : Nat) : Int) }] else []) ++ effL L t (i + 1)
theorem run_S : ∀ (S : List (List D)) (r : Rd), runE (effS S) r = { r with s := r.s ++ S }
  | [], r => by cases r; simp [effS, runE]
  | e :: t, r => by
    have := run_S t { r with s := r.s ++ [e] }
    simp only [List.append_assoc, List.cons_append, List.nil_append] at this
    exact this
theorem run_G : ∀ (G : List (List D)) (r : Rd), runE (effG G) r = { r with g := r.g ++ G }
  | [], r => by cases r; simp [effG, runE]
  | e :: t, r => by
    have := run_G t { r with g := r.g ++ [e] }
    simp only [List.append_assoc, List.cons_append, List.nil_append] at this
    exact this
theorem filt_ok {L : List (List D)} (hL : ∀ e ∈ L, RelOk (rI e 0) e) (v : Int) : ∀ e ∈ L.filter (fun e => rI e 0 == v), RelOk v e := fun e he => by
  obtain ⟨h1, h2⟩ := List.mem_filter.1 he
  have h2 := beq_iff_eq.1 h2
  have := hL e h1
  rw [h2] at this
  exact this
theorem run_L {L : List (List D)} (hL : ∀ e ∈ L, RelOk (rI e 0) e) : ∀ (t : List (List D)) (i : Nat) (r : Rd), (∀ (j : Nat) e, t[j]? = some e → rA e 0 = relsOf (i + j + 1) L) → runE (effL L t i) r = { r with l := r.l ++ relF L t.length i }
  | [], i, r, _ => by cases r; simp [effL, relF, runE]
  | e :: t, i, r, ht => by
    have h0 := ht 0 e rfl
    have ih := fun r => run_L hL t (i + 1) r (fun j e' hj => by
      have := ht (j + 1) e' hj
      rw [show i + (j + 1) = i + 1 + j from by omega] at this
      exact this)
    have hl := rels_len (filt_ok hL ((i + 1 : Nat) : Int))
    rw [effL, runE_app, ih, List.length_cons, relF]
    by_cases hp : 0 < (rA e 0).length
    · rw [if_pos hp]
      simp only [runE, List.foldl_cons, List.foldl_nil, List.append_assoc]
    · rw [if_neg hp]
      have hF : (L.filter fun e => rI e 0 == ((i + 1 : Nat) : Int)) = [] := by
        refine List.eq_nil_of_length_eq_zero ?_
        have : (rA e 0).length = (((L.filter fun e => rI e 0 == ((i + 1 : Nat) : Int)).map relRow).flatten).length := by rw [h0]; rfl
        omega
      rw [hF, List.nil_append]; rfl
inductive GdL (b H : List (List D)) : List Pt → List Hd → Prop
  | nil : GdL b H [] []
  | cons {p : Pt} {h : Hd} {ps : List Pt} {hs : List Hd} (ht : h.type = p.hd.type) (ha : h.align = p.hd.align) (hi : h.info = p.hd.info) (hz : p.hd.type = 8 → h.size = p.hd.size) (g : GdH b H h p.nm p.x) (t : GdL b H ps hs) : GdL b H (p :: ps) (h :: hs)
theorem gdl_app {b H : List (List D)} : ∀ {a c : List Pt} {hs : List Hd}, GdL b H (a ++ c) hs → ∃ h1 h2, hs = h1 ++ h2 ∧ GdL b H a h1 ∧ GdL b H c h2
  | [], c, hs, h => ⟨[], hs, rfl, .nil, h⟩
  | p :: a, c, _, .cons (h := h) ht ha hi hz g t => by
    obtain ⟨h1, h2, rfl, k1, k2⟩ := gdl_app t
    exact ⟨h :: h1, h2, rfl, .cons ht ha hi hz g k1, k2⟩
theorem gdl_of {b H P T : List (List D)} (hT : ∀ r, RdB b H r → ∀ a, getSE T a = 0 → nameS r (r.h.length - 1) a = getS T a ∧ nameE r (r.h.length - 1) a = 0) :
    ∀ {ps : List Pt} {hs : List Hd} (i : Nat), Pl b ps hs → (∀ (j : Nat) p, ps[j]? = some p → getS T (cellI P (i + j) 0) = p.nm ∧ getSE T (cellI P (i + j) 0) = 0) → GdL b H ps (nmd P hs i)
  | _, _, i, .nil, _ => .nil
  | _, _, i, .cons (p := p) (hs := hs) o ho hx t, hn => by
    obtain ⟨n1, n2⟩ := hn 0 p rfl
    rw [Nat.add_zero] at n1 n2
    refine .cons rfl rfl rfl (fun h8 => if_pos h8) ⟨fun r hr => ?_, fun h8 => ⟨o, rfl, if_neg h8, hx⟩⟩ (gdl_of hT (i + 1) t fun j q hq => ?_)
    · obtain ⟨q1, q2⟩ := hT r hr _ n2
      exact ⟨q1.trans n1, q2⟩
    · have := hn (j + 1) q hq
      rw [show i + (j + 1) = i + 1 + j from by omega] at this
      exact this
theorem eff_sec {b H m : List (List D)} : ∀ (S : List (List D)) (i : Nat) {hs : List Hd}, (∀ e ∈ S, ∃ s a x z, e = [D.str s, .int a, .arr x, .int z]) → secAll S = true → GdL b H (secP m S i) hs → Eff b H hs (effS S)
  | [], i, hs, _, _, h => by cases h; exact .nil
  | e :: t, i, hs, hS, hk, h => by
    obtain ⟨s, a, x, z, rfl⟩ := hS e List.mem_cons_self
    have hk' : (secOk s a (x.length : Nat) z && secAll t) = true := hk
    simp only [Bool.and_eq_true] at hk'
    rw [secP] at h
    cases h with
    | cons ht ha hi hz g t' =>
      refine .cons (fun r hr => step_sec hk'.1 ht ha (fun k => ?_) g r hr) (eff_sec t (i + 1) (fun e he => hS e (List.mem_cons_of_mem _ he)) hk'.2 t')
      exact (hz (show (if kindV s = 4 then 8 else 1 : Int) = 8 from if_pos k)).trans (show (if kindV s = 4 then z else 0) = z from if_pos k)
theorem eff_grp {b H : List (List D)} {N : Int} : ∀ (G : List (List D)) {hs : List Hd}, (∀ e ∈ G, ∃ s l, e = [D.str s, .arr l] ∧ ∀ q ∈ l, ∃ n, q = [D.int n] ∧ 0 ≤ n ∧ n < 4294967296) → GdL b H (grpP N G) hs → Eff b H hs (effG G)
  | [], hs, _, h => by cases h; exact .nil
  | e :: t, hs, hG, h => by
    obtain ⟨s, l, rfl, hl⟩ := hG e List.mem_cons_self
    rw [grpP, List.map_cons] at h
    cases h with
    | cons ht ha hi hz g t' => exact .cons (fun r hr => step_grp ht hl g r hr) (eff_grp t (fun e he => hG e (List.mem_cons_of_mem _ he)) t')
theorem eff_rel {b H L S : List (List D)} {N : Int} (hL : ∀ e ∈ L, RelOk (rI e 0) e) : ∀ (t : List (List D)) (i : Nat) {hs : List Hd}, (∀ (j : Nat) e, t[j]? = some e → rA e 0 = relsOf (i + j + 1) L) → GdL b H (relP N S t i) hs → Eff b H hs (effL L t i)
  | [], i, hs, _, h => by cases h; exact .nil
  | e :: t, i, hs, ht, h => by
    have h0 : rA e 0 = relsOf (i + 1) L := ht 0 e rfl
    have ht' : ∀ (j : Nat) e', t[j]? = some e' → rA e' 0 = relsOf (i + 1 + j + 1) L := fun j e' hj => by
      have := ht (j + 1) e' hj
      rw [show i + (j + 1) = i + 1 + j from by omega] at this
      exact this
    rw [relP] at h
    rw [effL]
    by_cases hp : 0 < (rA e 0).length
    · rw [if_pos hp, List.cons_append, List.nil_append] at h ⊢
      cases h with
      | cons k1 k2 k3 k4 g t' =>
        refine .cons (fun r hr => step_rel k1 (fun q hq => ?_) (by rw [← show rA e 0 = ((L.filter fun e => rI e 0 == ((i + 1 : Nat) : Int)).map relRow).flatten from h0]; exact g) r hr) (eff_rel hL t (i + 1) ht' t')
        rw [k3]
        exact filt_ok hL _ q hq
    · rw [if_neg hp, List.nil_append] at h ⊢
      exact eff_rel hL t (i + 1) ht' h
end Go.Proofs.Ytkcopbnaleiocaa.Ev
