/- A part of the proof: what the statement needs, and nothing else. -/
import Derived.Test.YtkcopbnaleiocaaZb29
namespace Go.Proofs.Ytkcopbnaleiocaa.Ev
open Go
set_option linter.unusedVariables false
set_option linter.unusedSimpArgs false
def intsR (x : List (List D)) : List Int := x.map fun e => (e.getD 0 default).toInt
theorem u8_bytes {x : List (List D)} (h : U8s x) : bytesIn x = true := List.all_eq_true.2 fun e he => by
  obtain ⟨n, rfl, h0, h1⟩ := h e he
  exact andT (decT h0) (decT h1)
theorem ints_of : ∀ {x y : List (List D)}, bytesIn x = true → bytesIn y = true → rowBytes x = rowBytes y → intsR x = intsR y := by
  have key : ∀ x y : List (List D), bytesIn x = true → bytesIn y = true → (x.map fun e => UInt8.ofNat (e.getD 0 default).toInt.toNat) = (y.map fun e => UInt8.ofNat (e.getD 0 default).toInt.toNat) → intsR x = intsR y := by
    intro x
    induction x with
    | nil => intro y _ _ h; cases y with
      | nil => rfl
      | cons b t => simp at h
    | cons a s ih =>
      intro y hx hy h
      cases y with
      | nil => simp at h
      | cons b t =>
        simp only [List.map_cons, List.cons.injEq] at h
        have hx : (decide (0 ≤ (a.getD 0 default).toInt) && decide ((a.getD 0 default).toInt < 256) && bytesIn s) = true := hx
        have hy : (decide (0 ≤ (b.getD 0 default).toInt) && decide ((b.getD 0 default).toInt < 256) && bytesIn t) = true := hy
        simp only [Bool.and_eq_true, decide_eq_true_eq] at hx hy
        obtain ⟨⟨x0, x1⟩, x2⟩ := hx
        obtain ⟨⟨y0, y1⟩, y2⟩ := hy
        have e := congrArg UInt8.toNat h.1
        rw [UInt8.toNat_ofNat', UInt8.toNat_ofNat', Nat.mod_eq_of_lt (by omega), Nat.mod_eq_of_lt (by omega)] at e
        have e1 : (a.getD 0 default).toInt = (b.getD 0 default).toInt := by omega
        show (a.getD 0 default).toInt :: intsR s = (b.getD 0 default).toInt :: intsR t
        rw [e1, ih t x2 y2 h.2]
  intro x y hx hy h
  refine key x y hx hy ?_
  have := congrArg (fun b : ByteArray => b.data.toList) h
  simpa [rowBytes] using this
theorem leN_fold : ∀ x : List (List D), leN x = (intsR x).foldr (fun a r => a + 256 * r) 0
  | [] => rfl
  | e :: t => by rw [leN, leN_fold t]; rfl
theorem ints_len {x y : List (List D)} (h : intsR x = intsR y) : x.length = y.length := by
  have := congrArg List.length h
  simpa [intsR] using this
theorem ints_cut (x : List (List D)) (a b : Int) : intsR (cut x a b) = cut (intsR x) a b := by
  simp [intsR, cut, List.map_take, List.map_drop]
theorem getV_ints {x y : List (List D)} (h : intsR x = intsR y) (a k : Int) : getV x a k = getV y a k := by
  have hl := ints_len h
  have e : getE x a k = getE y a k := by unfold getE; rw [hl]
  unfold getV
  rw [e, leN_fold, leN_fold, ints_cut, ints_cut, h]
theorem cell_ints (x : List (List D)) {i : Nat} (hi : i < x.length) : (intsR x)[i]? = some (cellI x i 0) := by
  simp [intsR, cellI, hi]
theorem u8_cut {x : List (List D)} (h : U8s x) (a b : Int) : U8s (cut x a b) := fun e he => by
  unfold cut at he
  exact h e (List.mem_of_mem_drop (List.mem_of_mem_take he))
theorem u8_cutV {x : List (List D)} (h : U8s x) (a n e : Int) : U8s (cutV x a n e) := by
  unfold cutV
  split
  · exact u8_cut h _ _
  · exact fun e he => by cases he
theorem mem_snoc {α : Type} {P : α → Prop} {l : List α} {a : α} (h : ∀ e ∈ l, P e) (ha : P a) : ∀ e ∈ l ++ [a], P e := fun e he => by
  rcases List.mem_append.1 he with he | he
  · exact h e he
  · rw [List.mem_singleton.1 he]; exact ha
theorem grpR_int (x : List (List D)) : ∀ (d : Nat) (a e : Int) (l : List (List D)), I64s l → I64s (grpR x d a e l).1
  | 0, a, e, l, h => h
  | d + 1, a, e, l, h => by
    unfold grpR
    split
    · exact grpR_int x d _ _ _ (mem_snoc h ⟨_, rfl⟩)
    · exact h
theorem relR_shp (info : Int) : ∀ (d : Nat) (x : List (List D)) (e : Int) (l : List (List D)), (∀ w ∈ l, ∃ a b k c d, w = [D.int a, .int b, .int k, .int c, .int d] ∧ 0 ≤ k ∧ k ≤ 255) → ∀ w ∈ (relR info d x e l).1, ∃ a b k c d, w = [D.int a, .int b, .int k, .int c, .int d] ∧ 0 ≤ k ∧ k ≤ 255
  | 0, x, e, l, h => h
  | d + 1, x, e, l, h => by
    unfold relR
    split
    · have h1 := relOne_ok (x.take 24) info
      simp only [Bool.and_eq_true, decide_eq_true_eq] at h1
      exact relR_shp info d _ _ _ (mem_snoc h ⟨_, _, _, _, _, rfl, h1.1, h1.2⟩)
    · exact h
theorem symR_shp (x : List (List D)) (hx : bytesIn x = true) : ∀ (d : Nat) (a : Int) (r : Rd), (∀ e ∈ r.y, ∃ s b hd w v z, e = [D.str s, .int b, .bool hd, .int w, .int v, .int z] ∧ 0 ≤ b ∧ b ≤ 255) → ∀ e ∈ (symR x d a r).y, ∃ s b hd w v z, e = [D.str s, .int b, .bool hd, .int w, .int v, .int z] ∧ 0 ≤ b ∧ b ≤ 255
  | 0, a, r, h => h
  | d + 1, a, r, h => by
    unfold symR
    split
    · split
      · exact h
      · rename_i hr
        have hr : symRe (cut x a (a + 24)) = 0 := by simpa using hr
        have h0 := symRb_pos (bytesIn_cut hx _ _) hr
        have h1 := bytesIn_cell (bytesIn_cut hx a (a + 24)) (i := 4) (by rw [symRe_len hr]; omega)
        have h2 : symRb (cut x a (a + 24)) ≤ 255 := by
          unfold symRb
          rw [Int.fdiv_eq_ediv_of_nonneg _ (by omega)]
          omega
        exact symR_shp x hx d _ _ (mem_snoc h ⟨_, _, _, _, _, _, rfl, h0, h2⟩)
    · exact h
theorem part_shp {b h : List (List D)} (hb : U8s b) {k : Nat} {r : Rd} (hr : RI k b h r) (hs : SObj r.s r.y r.l r.g) (hd : Hd) : SObj (partR r hd).s (partR r hd).y (partR r hd).l (partR r hd).g := by
  have hX : U8s (partX r hd) := u8_cutV (by rw [hr.b]; exact hb) _ _ _
  unfold partR
  split
  · exact ⟨mem_snoc hs.s ⟨_, _, _, _, rfl, fun e he => by cases he⟩, hs.y, hs.l, hs.g⟩
  · split
    · exact ⟨mem_snoc hs.s ⟨_, _, _, _, rfl, hX⟩, hs.y, hs.l, hs.g⟩
    · split
      · exact ⟨hs.s, hs.y, hs.l, mem_snoc hs.g ⟨_, _, rfl, grpR_int _ _ _ _ _ (fun e he => by cases he)⟩⟩
      · split
        · exact ⟨hs.s, hs.y, relR_shp _ _ _ _ _ hs.l, hs.g⟩
        · split
          · obtain ⟨h1, h2, h3, h4, h5, h6, h7⟩ := symR_in (partX r hd) (u8_bytes hX) (partX r hd).length 24 (partC r hd) hr.pos
            exact ⟨by rw [h3]; exact hs.s, symR_shp _ (u8_bytes hX) _ _ _ hs.y, by rw [h4]; exact hs.l, by rw [h5]; exact hs.g⟩
          · exact hs
theorem parts_shp {b h : List (List D)} (hb : U8s b) (hl : b.length ≤ 65536) : ∀ (d i : Nat) (r : Rd), RI i b h r → SObj r.s r.y r.l r.g → SObj (partsGo d i r).s (partsGo d i r).y (partsGo d i r).l (partsGo d i r).g
  | 0, i, r, hr, hs => hs
  | d + 1, i, r, hr, hs => by
    unfold partsGo
    split
    · exact parts_shp hb hl d (i + 1) _ (part_in (u8_bytes hb) hl hr _) (part_shp hb hr hs _)
    · exact hs
theorem sobj_nil : SObj [] [] [] [] := ⟨fun e he => (nomatch he), fun e he => (nomatch he), fun e he => (nomatch he), fun e he => (nomatch he)⟩
theorem rd_shp {b : List (List D)} (hb : U8s b) (hl : b.length ≤ 65536) : SObj (readF b).s (readF b).y (readF b).l (readF b).g := by
  obtain ⟨h1, h2, h3, h4, h5, h6⟩ := allF_in (u8_bytes hb)
  refine parts_shp hb hl (allF (rd0 b)).h.length 1 _ (rd_start (u8_bytes hb)) ?_
  rw [h3, h4, h5, h6]
  exact sobj_nil
structure RdOk (b : List (List D)) : Prop where
  len : b.length ≤ 65536
  chk : chkB (readF b).s (readF b).y (readF b).l (readF b).g = true
  wr : rowBytes (wrV (readF b).s (readF b).y (readF b).l (readF b).g) = rowBytes b
  eq : wrV (readF b).s (readF b).y (readF b).l (readF b).g = wrB (readF b).s (readF b).y (readF b).l (readF b).g
theorem wrE_zero {S Y L G : List (List D)} (h : wrE S Y L G = 0) : chkB S Y L G = true := by
  cases hk : chkB S Y L G with
  | true => rfl
  | false => rw [wrE, if_neg (by rw [hk]; exact Bool.false_ne_true)] at h; omega
theorem rd_ok {b : List (List D)} (h : readE b = 0) : RdOk b := by
  rw [readE] at h
  by_cases h1 : 65536 < b.length
  · rw [if_pos h1] at h; omega
  rw [if_neg h1] at h
  by_cases h2 : (readF b).e ≠ 0
  · rw [if_pos h2] at h; omega
  rw [if_neg h2] at h
  by_cases h3 : wrE (readF b).s (readF b).y (readF b).l (readF b).g ≠ 0
  · rw [if_pos h3] at h; omega
  rw [if_neg h3] at h
  by_cases h4 : sameB (wrV (readF b).s (readF b).y (readF b).l (readF b).g) b = true
  · rw [sameB, bytes_eq, decide_eq_true_eq] at h4
    have h3 := Decidable.not_not.1 h3
    exact ⟨by omega, wrE_zero h3, h4, by rw [wrV, if_pos h3]⟩
  · rw [if_neg h4] at h; omega
theorem readE_two (b : List (List D)) : readE b = 0 ∨ readE b = 8 := by
  unfold readE
  repeat' split
  all_goals simp
theorem rd_ints {b : List (List D)} (hb : U8s b) (h : readE b = 0) : intsR (wrB (readF b).s (readF b).y (readF b).l (readF b).g) = intsR b := by
  have hk := rd_ok h
  have hs := rd_shp hb hk.len
  obtain ⟨k, _, hr⟩ := rd_end (u8_bytes hb) hk.len
  refine ints_of (wrB_bytes hk.chk (fun e he => ?_) hr.pos) (u8_bytes hb) (by rw [← hk.eq]; exact hk.wr)
  obtain ⟨s, a, x, z, rfl, hx⟩ := hs.s e he
  exact u8_bytes hx
theorem file_len {b : List (List D)} (hb : U8s b) (h : readE b = 0) : (b.length : Int) = getV b 40 8 + 64 * getV b 60 2 ∧ 64 ≤ b.length := by
  have hk := rd_ok h
  have hi := rd_ints hb h
  have hl := wrB_len hk.chk
  have hl2 := ints_len hi
  have hp := wrPl_ge hk.chk
  have hlen := hk.len
  have hm := wrB_many hk.chk
  rw [getV_ints hi] at hm
  rcases wrB_place hk.chk with hq | hq
  · rw [getV_ints hi] at hq
    rw [hq, hm]; omega
  · omega
theorem lu1_ok : ExtAll Try.prog lu1 := .norm con_alr (.normP con_sam (.norm con_grt le6_ok))
theorem bytes4 {a : List (List D)} (ha : U8s a) : hasPB a sElf = (decide (4 ≤ a.length) && (cellI a 0 0 == 127) && (cellI a 1 0 == 69) && (cellI a 2 0 == 76) && (cellI a 3 0 == 70)) := by
  unfold hasPB
  rcases Nat.lt_or_ge a.length 4 with hl | hl
  · rw [show sElf.length = 4 from rfl, decF (p := 4 ≤ a.length) (by omega)]; rfl
  · rw [show sElf.length = 4 from rfl, decT (p := 4 ≤ a.length) hl, Bool.true_and, Bool.true_and, sameB, bytes_eq]
    match a, hl with
    | x0 :: x1 :: x2 :: x3 :: r, _ =>
      have e4 : (x0 :: x1 :: x2 :: x3 :: r).take 4 = [x0, x1, x2, x3] := rfl
      have c0 : cellI (x0 :: x1 :: x2 :: x3 :: r) 0 0 = (x0.getD 0 default).toInt := rfl
      have c1 : cellI (x0 :: x1 :: x2 :: x3 :: r) 1 0 = (x1.getD 0 default).toInt := rfl
      have c2 : cellI (x0 :: x1 :: x2 :: x3 :: r) 2 0 = (x2.getD 0 default).toInt := rfl
      have c3 : cellI (x0 :: x1 :: x2 :: x3 :: r) 3 0 = (x3.getD 0 default).toInt := rfl
      rw [e4, c0, c1, c2, c3]
      obtain ⟨n0, rfl, _, _⟩ := ha x0 (by simp)
      obtain ⟨n1, rfl, _, _⟩ := ha x1 (by simp)
      obtain ⟨n2, rfl, _, _⟩ := ha x2 (by simp)
      obtain ⟨n3, rfl, _, _⟩ := ha x3 (by simp)
      have hu : U8s [[.int n0], [.int n1], [.int n2], [.int n3]] := fun e he => ha e (List.mem_of_mem_take (i := 4) (by rw [e4]; exact he))
      have hs : U8s sElf := fun e he => by
        simp only [sElf, List.mem_cons, List.not_mem_nil, or_false] at he
        rcases he with rfl | rfl | rfl | rfl <;> exact ⟨_, rfl, by omega, by omega⟩
      simp only [List.getD_cons_zero, D.toInt]
      by_cases hq : n0 = 127 ∧ n1 = 69 ∧ n2 = 76 ∧ n3 = 70
      · obtain ⟨rfl, rfl, rfl, rfl⟩ := hq
        rw [decide_eq_true (by rfl)]; rfl
      · rw [decide_eq_false (fun e => hq ?_)]
        · symm
          simp only [Bool.and_eq_false_iff, beq_eq_false_iff_ne]
          omega
        · have := bytes_inj hu hs e
          simp only [sElf, List.cons.injEq, D.int.injEq, and_true] at this
          exact this
theorem is_elf {a : List (List D)} (ha : U8s a) (h : readE a = 0) : hasPB a sElf = true := by
  have hk := rd_ok h
  have hi := rd_ints ha h
  obtain ⟨_, h64⟩ := file_len ha h
  obtain ⟨m1, m2⟩ := wrMn_in hk.chk
  have hw : ∀ i, i < 4 → (intsR a)[i]? = ([127, 69, 76, 70] : List Int)[i]? := fun i hi4 => by
    rw [← hi, wrB_eq hk.chk, first_eq (by omega) (by omega)]
    match i, hi4 with
    | 0, _ | 1, _ | 2, _ | 3, _ => rfl
  have c : ∀ i n, i < 4 → ([127, 69, 76, 70] : List Int)[i]? = some n → cellI a i 0 = n := fun i n hi4 hn => by
    have := hw i hi4
    rw [cell_ints a (by omega), hn] at this
    exact Option.some.inj this
  rw [bytes4 ha, decT (p := 4 ≤ a.length) (by omega), c 0 127 (by omega) rfl, c 1 69 (by omega) rfl, c 2 76 (by omega) rfl, c 3 70 (by omega) rfl]; rfl
theorem readO_of {b x : List (List D)} (h : readE b = 0) : readO b x = x := by rw [readO, if_pos h]
theorem readO_no {b x : List (List D)} (h : readE b ≠ 0) : readO b x = [] := by rw [readO, if_neg h]
theorem rd_lens {b : List (List D)} (hb : U8s b) (h : readE b = 0) : (decide ((readF b).s.length ≤ 1048576) && decide ((readF b).y.length ≤ 1048576) && decide ((readF b).l.length ≤ 1048576) && (decide ((readF b).g.length ≤ 1048576) && lensOk 1 1048576 (readF b).g)) = true := by
  obtain ⟨k, hk, hr⟩ := rd_end (u8_bytes hb) (rd_ok h).len
  have := hr.s; have := hr.y; have := hr.l; have := hr.g
  exact andT (andT (andT (decT (by omega)) (decT (by omega))) (decT (by omega))) (andT (decT (by omega)) (lens_mono hr.gl (by omega)))
theorem rd_chk {b : List (List D)} (hb : U8s b) (h : readE b = 0) : (decide ((readF b).s.length ≤ 1048576) && decide ((readF b).y.length ≤ 1048576) && relsOk (readF b).l && decide ((readF b).g.length ≤ 1048576) && lensOk 1 1048576 (readF b).g) = true := by
  obtain ⟨k, hk, hr⟩ := rd_end (u8_bytes hb) (rd_ok h).len
  have := hr.s; have := hr.y; have := hr.l; have := hr.g
  exact andT (andT (andT (andT (decT (by omega)) (decT (by omega))) hr.rel) (decT (by omega))) (lens_mono hr.gl (by omega))
end Go.Proofs.Ytkcopbnaleiocaa.Ev
namespace Go.Proofs.Ytkcopbnaleiocaa.Ev
open Go
set_option linter.unusedVariables false
set_option linter.unusedSimpArgs false
theorem wrt_pre2 {S Y L G : List (List D)} (hc : (decide (S.length ≤ 1048576) && decide (Y.length ≤ 1048576) && relsOk L && decide (G.length ≤ 1048576) && lensOk 1 1048576 G) = true) (hp : posOk 1 Y = true) : (decide (S.length ≤ 1048576) && decide (Y.length ≤ 1048576) && relsOk L && decide (G.length ≤ 1048576) && lensOk 1 1048576 G && (!chkB S Y L G || wrOk S Y L G)) = true := by
  refine andT hc ?_
  cases hk : chkB S Y L G with
  | false => rfl
  | true => rw [wrOk_of hk hp]; rfl
theorem rd_wr {b : List (List D)} (h : readE b = 0) : wrE (readF b).s (readF b).y (readF b).l (readF b).g = 0 := by
  rw [readE] at h
  by_cases h1 : 65536 < b.length
  · rw [if_pos h1] at h; omega
  rw [if_neg h1] at h
  by_cases h2 : (readF b).e ≠ 0
  · rw [if_pos h2] at h; omega
  rw [if_neg h2] at h
  by_cases h3 : wrE (readF b).s (readF b).y (readF b).l (readF b).g ≠ 0
  · rw [if_pos h3] at h; omega
  exact Decidable.not_not.1 h3
theorem pos_of {S Y L G : List (List D)} (sh : SObj S Y L G) : posOk 1 Y = true := List.all_eq_true.2 fun e he => by
  obtain ⟨s, b, hd, w, v, z, rfl, b0, b1⟩ := sh.y e he
  exact decT b0
theorem nil_pre : (decide (([] : List (List D)).length ≤ 1048576) && decide (([] : List (List D)).length ≤ 1048576) && decide (([] : List (List D)).length ≤ 1048576) && (decide (([] : List (List D)).length ≤ 1048576) && lensOk 1 1048576 [])) = true := by kernel_rfl
theorem bk_ps {b : List (List D)} (q : readE b ≠ 0) : (decide ((readO b (readF b).s).length ≤ 1048576) && decide ((readO b (readF b).y).length ≤ 1048576) && decide ((readO b (readF b).l).length ≤ 1048576) && (decide ((readO b (readF b).g).length ≤ 1048576) && lensOk 1 1048576 (readO b (readF b).g))) = true := by
  simp only [readO_no q]; exact nil_pre
theorem bk_f0 {b : List (List D)} (q : readE b ≠ 0) : V.val (.bool (sameO (readO b (readF b).s) (readO b (readF b).y) (readO b (readF b).l) (readO b (readF b).g) [] [] [] [])) = V.val (.bool true) := by
  simp only [readO_no q]
  rw [(same_eq sobj_nil sobj_nil).2 ⟨rfl, rfl, rfl, rfl⟩]
theorem bk_pc {b : List (List D)} (hb : U8s b) (q : readE b = 0) : (decide ((readO b (readF b).s).length ≤ 1048576) && decide ((readO b (readF b).y).length ≤ 1048576) && relsOk (readO b (readF b).l) && decide ((readO b (readF b).g).length ≤ 1048576) && lensOk 1 1048576 (readO b (readF b).g)) = true := by
  simp only [readO_of q]; exact rd_chk hb q
theorem bk_pp {b : List (List D)} (hb : U8s b) (q : readE b = 0) : posOk 1 (readO b (readF b).y) = true := by
  rw [readO_of q]; exact pos_of (rd_shp hb (rd_ok q).len)
theorem bk_pw {b : List (List D)} (q : readE b = 0) : (wrE (readO b (readF b).s) (readO b (readF b).y) (readO b (readF b).l) (readO b (readF b).g) == 0) = true := by
  simp only [readO_of q]; rw [rd_wr q]; rfl
theorem bk_pe {b : List (List D)} (q : readE b = 0) : ((rowBytes (wrV (readO b (readF b).s) (readO b (readF b).y) (readO b (readF b).l) (readO b (readF b).g))).toList == (rowBytes b).toList) = true := by
  simp only [readO_of q]
  rw [(rd_ok q).wr, bytes_eq]
  exact decT rfl
theorem bk_f1 {b : List (List D)} (q : readE b = 0) : V.val (.bool ((if chkB (readO b (readF b).s) (readO b (readF b).y) (readO b (readF b).l) (readO b (readF b).g) = true then (0 : Int) else 8) == 0)) = V.val (.bool true) := by
  simp only [readO_of q]
  rw [if_pos (rd_ok q).chk]; rfl
theorem bk_8 {x : List (List D)} (q : (readE x != 0) = true) : (readE x == 8) = true := by
  rcases readE_two x with q' | q'
  · exact absurd q' (bne_iff_ne.1 q)
  · rw [q']; rfl
theorem bk_nz {x : Int} (h : (x != 0) = false) : x = 0 := by simpa [bne] using h
theorem con_bck (S Y L G b : List (List D)) (h : GObj S Y L G) (hgb : Good (.arr u8s) (.arr b)) :
    Contract Try.prog 11 [.agg [.arr secC S, .arr symC Y, .arr relC L, .arr grpC G], .arr u8s b] [] (.val (.bool true), []) := by
  have hb : U8s b := fun e he => good_u8 hgb he
  refine el_con lu1_ok Try.func11 (by kernel_rfl) (by kernel_rfl) rfl (by kernel_rfl) (by kernel_rfl) (Runs.of (fun q => bckp0 q S Y L G b) ?_)
  unfold bckt0
  refine ask (fun _ => is_refl rfl) (fun hg => ask (fun _ => is_refl rfl) (fun h2 => ?_))
  have hs := small_of hg
  have h2 := of_decide_eq_false h2
  refine askT (wrt_pre2 (chk_pre h hs) (pos_ok h.y)) ?_
  have pb : (bytesIn b && decide (b.length ≤ 1048576)) = true := andT (u8_bytes hb) (decT (by omega))
  refine ask (fun e0 => ?_) (fun _ => askT pb (ask (fun q => askT (bk_8 q) (askT (bk_ps (bne_iff_ne.1 q)) (is_refl (bk_f0 (bne_iff_ne.1 q))))) (fun q => askT (wrt_pre2 (bk_pc hb (bk_nz q)) (bk_pp hb (bk_nz q))) (askT (bk_pw (bk_nz q)) (askT (bk_pe (bk_nz q)) (askT (bk_pc hb (bk_nz q)) (is_refl (bk_f1 (bk_nz q)))))))))
  have e0 : wrE S Y L G = 0 := beq_iff_eq.1 e0
  obtain ⟨k, l, v⟩ := wr_yes e0
  have hu := u8_wrB k h.shp
  have hw := readE_back k h.shp l
  obtain ⟨a1, a2, a3, a4, _⟩ := read_back k h.shp l
  rw [v]
  have pw : (bytesIn (wrB S Y L G) && decide ((wrB S Y L G).length ≤ 1048576)) = true := andT (u8_bytes hu) (decT (by rw [wrB_len k, ← wrAll_len k]; omega))
  refine askT (Eq.trans (by kernel_rfl) pw) (askF (by rw [hw]; rfl) ?_)
  simp only [readO_of hw, a1, a2, a3, a4]
  refine askT (same_pre hs) (askF (by rw [(same_eq h.shp h.shp).2 ⟨rfl, rfl, rfl, rfl⟩]; rfl) ?_)
  have hel : hasPB (wrB S Y L G) [[D.int 127], [D.int 69], [D.int 76], [D.int 70]] = true := is_elf hu hw
  refine askF (by rw [hel]; rfl) ?_
  exact askT pb (ask (fun q => askT (bk_8 q) (askT (bk_ps (bne_iff_ne.1 q)) (is_refl (bk_f0 (bne_iff_ne.1 q))))) (fun q => askT (wrt_pre2 (bk_pc hb (bk_nz q)) (bk_pp hb (bk_nz q))) (askT (bk_pw (bk_nz q)) (askT (bk_pe (bk_nz q)) (askT (bk_pc hb (bk_nz q)) (is_refl (bk_f1 (bk_nz q))))))))
end Go.Proofs.Ytkcopbnaleiocaa.Ev
