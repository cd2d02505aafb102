/- Files read back: rows, numbers and names lie where they were put. -/
import Derived.Test.YtkcopbnaleiocaaWfA
import Derived.Test.YtkcopbnaleiocaaRqD
import Derived.Test.YtkcopbnaleiocaaLkG
namespace Go.Proofs.Ytkcopbnaleiocaa.Ev
open Go
set_option linter.unusedVariables false
set_option linter.unusedSimpArgs false
/-! ### Rows that lie in rows -/
def Has (b : List (List D)) (o : Nat) (x : List (List D)) : Prop := ∃ A B, b = A ++ (x ++ B) ∧ A.length = o
theorem has_app {b x : List (List D)} {o : Nat} (h : Has b o x) (c : List (List D)) : Has (b ++ c) o x := by
  obtain ⟨A, B, rfl, hl⟩ := h
  exact ⟨A, B ++ c, by simp only [List.append_assoc], hl⟩
theorem has_pre {b x : List (List D)} {o : Nat} (h : Has b o x) (c : List (List D)) : Has (c ++ b) (c.length + o) x := by
  obtain ⟨A, B, rfl, hl⟩ := h
  exact ⟨c ++ A, B, by simp only [List.append_assoc], by rw [List.length_append, hl]⟩
theorem has_cut {b x : List (List D)} {o : Nat} (h : Has b o x) : cut b (o : Nat) ((o : Nat) + (x.length : Nat)) = x := by
  obtain ⟨A, B, rfl, rfl⟩ := h
  exact cut_mid A x B _ _ rfl rfl
theorem has_le {b x : List (List D)} {o : Nat} (h : Has b o x) : o + x.length ≤ b.length := by
  obtain ⟨A, B, rfl, rfl⟩ := h
  simp only [List.length_append]; omega
theorem has_cutOk {b x : List (List D)} {o : Nat} (h : Has b o x) : cutOk b (o : Nat) (x.length : Nat) 0 = true := by
  have hl := has_le h
  exact andT (andT (andT (andT (decT rfl) (decT (by omega))) (decT (by omega))) (decT (by omega))) (decT (by omega))
theorem has_cutV {b x : List (List D)} {o : Nat} (h : Has b o x) : cutV b (o : Nat) (x.length : Nat) 0 = x := by
  rw [cutV, if_pos (has_cutOk h), has_cut h]
theorem has_cutE {b x : List (List D)} {o : Nat} (h : Has b o x) : cutE b (o : Nat) (x.length : Nat) 0 = 0 := by
  rw [cutE, if_pos (has_cutOk h)]
theorem has_first {b x F : List (List D)} {o : Nat} (h : Has b o x) (ho : 64 ≤ o) (hF : F.length = 64) : Has (F ++ b.drop 64) o x := by
  obtain ⟨A, B, rfl, rfl⟩ := h
  refine ⟨F ++ A.drop 64, B, ?_, ?_⟩
  · rw [List.drop_append_of_le_length ho, List.append_assoc]
  · rw [List.length_append, List.length_drop]; omega
theorem has_head {b x y : List (List D)} {o : Nat} (h : Has b o (x ++ y)) : Has b o x := by
  obtain ⟨A, B, rfl, rfl⟩ := h
  exact ⟨A, y ++ B, by simp only [List.append_assoc], rfl⟩
theorem has_tail {b x y : List (List D)} {o l : Nat} (h : Has b o (x ++ y)) (hl : x.length = l) : Has b (o + l) y := by
  obtain ⟨A, B, rfl, rfl⟩ := h
  exact ⟨A ++ x, B, by simp only [List.append_assoc], by rw [List.length_append, hl]⟩
theorem has_self (x : List (List D)) : Has x 0 x := ⟨[], [], by simp, rfl⟩
theorem getV_has {b : List (List D)} {o k : Nat} {n a : Int} (h : Has b o (leB n k)) (hk : siz k = true) (h0 : 0 ≤ n) (h1 : n < 256 ^ k) (h2 : n < 9223372036854775808) (ha : a = (o : Nat)) : getV b a k = n := by
  obtain ⟨A, B, rfl, rfl⟩ := h
  exact getV_mid hk h0 h1 h2 ha
theorem wrap_mod {n : Int} (h1 : -9223372036854775808 ≤ n) (h2 : n < 9223372036854775808) : IntKind.wrap .i64 (n % 18446744073709551616) = n := by
  have e : IntKind.wrap .i64 (n % 18446744073709551616) = IntKind.wrap .i64 n := by
    simp [IntKind.wrap, IntKind.bits, IntKind.signed]
  rw [e, wrap64 h1 (by omega)]
theorem getV_has64 {b : List (List D)} {o : Nat} {n a : Int} (h : Has b o (leB n 8)) (h1 : -9223372036854775808 ≤ n) (h2 : n < 9223372036854775808) (ha : a = (o : Nat)) : getV b a 8 = n := by
  obtain ⟨A, B, rfl, rfl⟩ := h
  have e0 : getE (A ++ (leB n 8 ++ B)) a 8 = 0 := by
    unfold getE
    rw [show siz 8 = true from rfl]
    simp only [Bool.not_true, Bool.false_eq_true, if_false]
    rw [if_neg]
    rw [List.length_append, List.length_append, leB_len]
    omega
  rw [getV, if_pos e0, cut_mid A (leB n 8) B a _ ha (by rw [leB_len, ha]; rfl), leN_leB]
  exact wrap_mod h1 h2
/-! ### Names -/
def NameAt (t : List (List D)) (a : Int) (s : ByteArray) : Prop := ∃ o : Nat, a = (o : Nat) ∧ Has t o (bytesRow s ++ [[.int 0]])
theorem name_app {t : List (List D)} {a : Int} {s : ByteArray} (h : NameAt t a s) (c : List (List D)) : NameAt (t ++ c) a s := by
  obtain ⟨o, e, h⟩ := h
  exact ⟨o, e, has_app h c⟩
theorem ix_name : ∀ (l r : List UInt8), l.all okCh = true → Lib.indexByte (l ++ 0 :: r) 0 = (l.length : Nat)
  | [], r, _ => by rw [List.nil_append, ix_cons, if_pos rfl]; rfl
  | b :: l, r, h => by
    simp only [List.all_cons, Bool.and_eq_true] at h
    rw [List.cons_append, ix_cons, if_neg (okCh_ne h.1), ix_name l r h.2, if_neg (by omega), List.length_cons]; omega
theorem rowB_app (a b : List (List D)) : rowB (a ++ b) = rowB a ++ rowB b := by simp [rowB_eq]
theorem rowB_row (s : ByteArray) : rowB (bytesRow s) = s.data.toList := by
  rw [rowB_eq, bytesRow, List.map_map]
  have : ∀ l : List UInt8, l.map ((fun e : List D => UInt8.ofNat (e.getD 0 default).toInt.toNat) ∘ fun b => [D.int (b.toNat : Int)]) = l := by
    intro l
    induction l with
    | nil => rfl
    | cons b l ih => rw [List.map_cons, ih]; simp [D.toInt]
  exact this _
theorem rowBytes_row (s : ByteArray) : rowBytes (bytesRow s) = s := by
  apply ByteArray.ext
  apply Array.ext'
  have h1 : (rowBytes (bytesRow s)).data.toList = rowB (bytesRow s) := by rw [rowB_eq]; simp [rowBytes]
  rw [h1, rowB_row]
theorem get_name {t : List (List D)} {a : Int} {s : ByteArray} (h : NameAt t a s) (hs : graph s = true) (hc : chkR t = 0) : getS t a = s ∧ getSE t a = 0 := by
  obtain ⟨o, rfl, A, B, rfl, rfl⟩ := h
  have hn : ¬ (chkR (A ++ (bytesRow s ++ [[.int 0]] ++ B)) ≠ 0 ∨ ((A.length : Nat) : Int) < 0 ∨ (((A ++ (bytesRow s ++ [[D.int 0]] ++ B)).length : Nat) : Int) ≤ (A.length : Nat)) := by
    rw [hc]
    simp only [List.length_append, List.length_cons, List.length_nil, ne_eq, not_true_eq_false, false_or, not_or]
    omega
  refine ⟨?_, by rw [getSE, if_neg hn]⟩
  have e1 : cut (A ++ (bytesRow s ++ [[.int 0]] ++ B)) (A.length : Nat) ((A ++ (bytesRow s ++ [[D.int 0]] ++ B)).length : Nat) = bytesRow s ++ [[.int 0]] ++ B := by
    unfold cut
    rw [Int.toNat_natCast, Int.toNat_natCast, List.drop_left, List.take_of_length_le (by simp only [List.length_append, List.length_cons, List.length_nil]; omega)]
  have e2 : ixB (rowB (bytesRow s ++ [[.int 0]] ++ B)) 0 = (s.size : Nat) := by
    rw [rowB_app, rowB_app, rowB_row, List.append_assoc]
    have := ix_name s.data.toList (rowB B) hs
    have hz : s.data.toList.length = s.size := by rw [Array.length_toList]; rfl
    rw [hz] at this
    exact this
  rw [getS, if_neg hn, e1, e2, List.append_assoc, cut_mid A (bytesRow s) ([[D.int 0]] ++ B) _ _ rfl (by rw [bytesRow_length]), rowBytes_row]
/-! ### A table of names -/
theorem key_is (s s' : ByteArray) : keyIs .str (.string s) (.str s') = decide (s = s') := ba_eq s s'
theorem find_set (s s' : ByteArray) (n : List D) (hn : n.getD 0 default = .str s) : ∀ m : List (List D), findRow .str (.string s') (setRow .str (.string s) n m) = if s' = s then some n else findRow .str (.string s') m
  | [] => by
    show (if keyIs .str (.string s') (n.getD 0 default) = true then some n else none) = _
    rw [hn, key_is]
    by_cases h : s' = s
    · rw [decT h, if_pos rfl, if_pos h]
    · rw [decF h, if_neg (by simp), if_neg h]; rfl
  | e :: t => by
    have key : keyIs .str (.string s) (e.getD 0 default) = decide (s = (e.getD 0 default).toStr) := ba_eq _ _
    have key' : keyIs .str (.string s') (e.getD 0 default) = decide (s' = (e.getD 0 default).toStr) := ba_eq _ _
    have fe : findRow .str (.string s') (e :: t) = if keyIs .str (.string s') (e.getD 0 default) = true then some e else findRow .str (.string s') t := rfl
    unfold setRow
    by_cases h : s = (e.getD 0 default).toStr
    · rw [key, decT h, if_pos rfl]
      have fn : findRow .str (.string s') (n :: t) = if keyIs .str (.string s') (n.getD 0 default) = true then some n else findRow .str (.string s') t := rfl
      rw [fn, hn, key_is, fe, key', ← h]
      by_cases h' : s' = s
      · rw [decT h', if_pos rfl, if_pos h']
      · rw [decF h', if_neg (by simp), if_neg h', if_neg (by simp)]
    · rw [key, decF h, if_neg (by simp)]
      have fn : findRow .str (.string s') (e :: setRow .str (.string s) n t) = if keyIs .str (.string s') (e.getD 0 default) = true then some e else findRow .str (.string s') (setRow .str (.string s) n t) := rfl
      rw [fn, find_set s s' n hn t, fe, key']
      by_cases h' : s' = s
      · rw [if_pos h', if_pos h', decF (by rw [h']; exact h), if_neg (by simp)]
      · rw [if_neg h', if_neg h']
def TabOk (t : List (List D)) : Prop := 0 < t.length ∧ cellI t 0 0 = 0 ∧ cellI t (t.length - 1) 0 = 0
theorem bldGo_at : ∀ (ns : List ByteArray) (t m p : List (List D)), (∀ s ∈ ns, nmG 40 s) → t.length + 41 * ns.length ≤ 65536 → (∀ s e, findRow .str (.string s) m = some e → NameAt t (e.getD 1 default).toInt s) → TabOk t →
    ∃ c q, bldGo ns t m p = ⟨t ++ c, p ++ q, 0⟩ ∧ TabOk (t ++ c) ∧ q.length = ns.length ∧ ∀ (i : Nat) s, ns[i]? = some s → NameAt (t ++ c) (cellI q i 0) s
  | [], t, m, p, _, h, hm, ht => by
    simp only [List.length_nil, Nat.mul_zero, Nat.add_zero] at h
    refine ⟨[], [], by rw [bldGo, if_neg (by omega), List.append_nil, List.append_nil], by rw [List.append_nil]; exact ht, rfl, fun i s hi => by simp at hi⟩
  | s :: r, t, m, p, hs, h, hm, ht => by
    have h1 := hs s List.mem_cons_self
    have h2 := graph_ix h1.2
    have h3 := h1.1
    simp only [List.length_cons] at h
    have key : ∀ (t' m' : List (List D)) (a : Int), t'.length + 41 * r.length ≤ 65536 → (∀ s e, findRow .str (.string s) m' = some e → NameAt t' (e.getD 1 default).toInt s) → TabOk t' → (∃ c0, t' = t ++ c0) → NameAt t' a s →
        ∃ c q, bldGo r t' m' (p ++ [[.int a]]) = ⟨t ++ c, p ++ q, 0⟩ ∧ TabOk (t ++ c) ∧ q.length = (s :: r).length ∧ ∀ (i : Nat) s', (s :: r)[i]? = some s' → NameAt (t ++ c) (cellI q i 0) s' := by
      rintro t' m' a hl hm' ht' ⟨c0, rfl⟩ hn
      obtain ⟨c, q, e1, e2, e3, e4⟩ := bldGo_at r (t ++ c0) m' (p ++ [[.int a]]) (fun s h => hs s (List.mem_cons_of_mem _ h)) hl hm' ht'
      refine ⟨c0 ++ c, [.int a] :: q, by rw [e1]; simp only [List.append_assoc, List.cons_append, List.nil_append], by rw [← List.append_assoc]; exact e2, by simp only [List.length_cons, e3], fun i s' hi => ?_⟩
      rw [← List.append_assoc]
      cases i with
      | zero => cases hi; exact name_app hn c
      | succ i => exact e4 i s' hi
    rw [bldGo, if_neg (by omega)]
    split
    · rename_i hh
      obtain ⟨e, he⟩ := Option.isSome_iff_exists.1 hh
      refine key t m _ (by omega) hm ht ⟨[], by rw [List.append_nil]⟩ ?_
      have := hm s e he
      rw [lookD, he]
      exact this
    · have hl : (t ++ bytesRow s ++ [[D.int 0]]).length = t.length + s.size + 1 := by rw [List.length_append, List.length_append, bytesRow_length]; rfl
      have hn : NameAt (t ++ bytesRow s ++ [[D.int 0]]) (t.length : Nat) s := ⟨t.length, rfl, t, [], by simp only [List.append_assoc, List.append_nil], rfl⟩
      refine key _ _ _ (by rw [hl]; omega) (fun s' e he => ?_) ⟨by omega, ?_, ?_⟩ ⟨bytesRow s ++ [[.int 0]], by rw [List.append_assoc]⟩ hn
      · rw [find_set s s' _ rfl] at he
        split at he
        · rename_i h'; cases he; rw [h']; exact hn
        · rw [List.append_assoc]; exact name_app (hm s' e he) _
      · rw [List.append_assoc, cellI_left ht.1]; exact ht.2.1
      · rw [hl, cellI_right (by rw [List.length_append, bytesRow_length]; omega), List.length_append, bytesRow_length, show t.length + s.size + 1 - 1 - (t.length + s.size) = 0 from by omega]; rfl
theorem bldR_at {xs : List (List D)} (h : nmAll xs) (hl : xs.length ≤ 1000) : chkR (bldR xs).t = 0 ∧ ∀ (i : Nat) e, xs[i]? = some e → NameAt (bldR xs).t (cellI (bldR xs).p i 0) (rS e 0) := by
  obtain ⟨c, q, e1, e2, e3, e4⟩ := bldGo_at (namesOf xs) [[.int 0]] [[.str .empty, .int 0]] [] (fun s hs => by
    obtain ⟨e, he, rfl⟩ := List.mem_map.1 hs
    exact h e he) (by simp only [namesOf, List.length_map, List.length_cons, List.length_nil]; omega) (fun s e he => by
      have : findRow .str (.string s) [[.str .empty, .int 0]] = if s = .empty then some [.str .empty, .int 0] else none := by
        show (if keyIs .str (.string s) (.str .empty) = true then _ else _) = _
        rw [key_is]
        by_cases hs : s = .empty
        · rw [decT hs, if_pos rfl, if_pos hs]
        · rw [decF hs, if_neg (by simp), if_neg hs]; rfl
      rw [this] at he
      split at he
      · rename_i hs; cases he; subst hs
        exact ⟨0, rfl, [], [], by rfl, rfl⟩
      · cases he) ⟨by decide, rfl, rfl⟩
  have e0 : bldR xs = ⟨[[.int 0]] ++ c, [] ++ q, 0⟩ := by rw [bldR, if_neg (by omega), e1]
  have h6 := (bldR_ok h hl).2.1
  rw [e0] at h6 ⊢
  refine ⟨?_, fun i e hi => e4 i (rS e 0) (by rw [namesOf, List.getElem?_map, hi]; rfl)⟩
  rw [chkR, if_neg]
  rintro (h' | h' | h' | h')
  · exact absurd h' (Nat.ne_of_gt e2.1)
  · omega
  · exact h' e2.2.1
  · exact h' e2.2.2
theorem bldR_get {xs : List (List D)} (h : nmAll xs) (hl : xs.length ≤ 1000) {i : Nat} {e : List D} (hi : xs[i]? = some e) : getS (bldR xs).t (cellI (bldR xs).p i 0) = rS e 0 ∧ getSE (bldR xs).t (cellI (bldR xs).p i 0) = 0 := by
  obtain ⟨h1, h2⟩ := bldR_at h hl
  exact get_name (h2 i e hi) (h e (List.mem_of_getElem? hi)).2 h1
/-! ### Heads -/
def s8 (n : Int) : Bool := decide (0 ≤ n) && decide (n < 9223372036854775808)
def Hd.okS (h : Hd) : Bool := f4 h.name && f4 h.type && s8 h.flags && s8 h.addr && s8 h.offset && s8 h.size && f4 h.link && f4 h.info && s8 h.align && s8 h.entry
theorem getV_f4 {b : List (List D)} {o : Nat} {n a : Int} (h : Has b o (leB n 4)) (hn : f4 n = true) (ha : a = (o : Nat)) : getV b a 4 = n := by
  simp only [f4, Bool.and_eq_true, decide_eq_true_eq] at hn
  exact getV_has (k := 4) h rfl hn.1 (by rw [show (256 : Int) ^ 4 = 4294967296 from by decide]; exact hn.2) (by omega) ha
theorem getV_s8 {b : List (List D)} {o : Nat} {n a : Int} (h : Has b o (leB n 8)) (hn : s8 n = true) (ha : a = (o : Nat)) : getV b a 8 = n := by
  simp only [s8, Bool.and_eq_true, decide_eq_true_eq] at hn
  exact getV_has64 h (by omega) hn.2 ha
theorem hd_back {h : Hd} (hk : h.okS = true) : hdN h.b = h := by
  simp only [Hd.okS, Bool.and_eq_true] at hk
  obtain ⟨⟨⟨⟨⟨⟨⟨⟨⟨k0, k1⟩, k2⟩, k3⟩, k4⟩, k5⟩, k6⟩, k7⟩, k8⟩, k9⟩ := hk
  have t0 : Has h.b 0 (leB h.name 4 ++ (leB h.type 4 ++ (leB h.flags 8 ++ (leB h.addr 8 ++ (leB h.offset 8 ++ (leB h.size 8 ++ (leB h.link 4 ++ (leB h.info 4 ++ (leB h.align 8 ++ leB h.entry 8))))))))) := by
    have := has_self h.b
    simp only [Hd.b, List.append_assoc] at this ⊢
    exact this
  have t1 := has_tail t0 (leB_len _ _)
  have t2 := has_tail t1 (leB_len _ _)
  have t3 := has_tail t2 (leB_len _ _)
  have t4 := has_tail t3 (leB_len _ _)
  have t5 := has_tail t4 (leB_len _ _)
  have t6 := has_tail t5 (leB_len _ _)
  have t7 := has_tail t6 (leB_len _ _)
  have t8 := has_tail t7 (leB_len _ _)
  have t9 := has_tail t8 (leB_len _ _)
  have u0 : getV h.b 0 4 = h.name := getV_f4 (has_head t0) k0 rfl
  have u1 : getV h.b 4 4 = h.type := getV_f4 (has_head t1) k1 rfl
  have u2 : getV h.b 8 8 = h.flags := getV_s8 (has_head t2) k2 rfl
  have u3 : getV h.b 16 8 = h.addr := getV_s8 (has_head t3) k3 rfl
  have u4 : getV h.b 24 8 = h.offset := getV_s8 (has_head t4) k4 rfl
  have u5 : getV h.b 32 8 = h.size := getV_s8 (has_head t5) k5 rfl
  have u6 : getV h.b 40 4 = h.link := getV_f4 (has_head t6) k6 rfl
  have u7 : getV h.b 44 4 = h.info := getV_f4 (has_head t7) k7 rfl
  have u8 : getV h.b 48 8 = h.align := getV_s8 (has_head t8) k8 rfl
  have u9 : getV h.b 56 8 = h.entry := getV_s8 t9 k9 rfl
  unfold hdN
  rw [u0, u1, u2, u3, u4, u5, u6, u7, u8, u9]
theorem hd_ok8 {h : Hd} (hk : h.okS = true) : h.ok8 = true := by
  simp only [Hd.okS, f4, s8, Bool.and_eq_true, decide_eq_true_eq] at hk
  simp only [Hd.ok8, Bool.and_eq_true, decide_eq_true_eq]
  omega
theorem hd_ok1 {h : Hd} (hk : h.okS = true) : h.ok = true := by
  simp only [Hd.okS, f4, s8, Bool.and_eq_true, decide_eq_true_eq] at hk
  simp only [Hd.ok, f4, f8, Bool.and_eq_true, decide_eq_true_eq]
  omega
theorem hd_rv {h : Hd} (hk : h.okS = true) : hdRV h.b = h ∧ hdRE h.b = 0 := by
  have e := hd_back hk
  have e8 := hd_ok8 hk
  constructor
  · rw [hdRV, if_pos (by rw [hdRok, hd_len, e, e8]; rfl), e]
  · rw [hdRE, if_pos (hd_len h), e, e8]; rfl
end Go.Proofs.Ytkcopbnaleiocaa.Ev
