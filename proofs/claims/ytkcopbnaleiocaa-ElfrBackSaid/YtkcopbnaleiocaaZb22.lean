/- A part of the proof: what the statement needs, and nothing else. -/
import Derived.Test.YtkcopbnaleiocaaZb21
namespace Go.Proofs.Ytkcopbnaleiocaa.Ev
open Go
set_option linter.unusedVariables false
noncomputable def rlsk0 : List T := [.code (sub (bodyOf Try.f57) [])]
def rlss0 (t0_0 t0_1 t0_2 t0_3 : List (List D)) : St := ⟨[(0, .agg [.arr secC t0_0, .arr symC t0_1, .arr relC t0_2, .arr grpC t0_3])], []⟩
noncomputable def rlsk1 : List T := [.code (sub (bodyOf Try.f57) [1, 1, 0, 1, 0, 0]), .lp (sub (bodyOf Try.f57) [1, 1, 0, 1, 0, 0]), .blk 0, .code (sub (bodyOf Try.f57) [1, 1, 1])]
def rlss1 (t12 : List (List D)) (t13 t14 : Int) (b1_0 b1_1 b1_2 b1_3 : List (List D)) : St := ⟨[(1, .ptr (.loc 1) 0), (12, .arr relC t12), (13, .val (.int .i64 t13)), (14, .val (.int .i64 t14))], [(.loc 1, [.arr secC b1_0, .arr symC b1_1, .arr relC b1_2, .arr grpC b1_3])]⟩
noncomputable def rlsk2 : List T := [.code (sub (bodyOf Try.f57) [1, 1, 0, 1, 0, 0, 1, 1, 0, 0, 1, 1, 1, 1, 0, 0]), .lp (sub (bodyOf Try.f57) [1, 1, 0, 1, 0, 0, 1, 1, 0, 0, 1, 1, 1, 1, 0, 0]), .blk 2, .blk 1, .code (sub (bodyOf Try.f57) [1, 1, 0, 1, 0, 0, 1, 1, 1]), .lp (sub (bodyOf Try.f57) [1, 1, 0, 1, 0, 0]), .blk 0, .code (sub (bodyOf Try.f57) [1, 1, 1])]
def rlss2 (t12 : List (List D)) (t13 t14 : Int) (t53 : List (List D)) (t54 t55 : Int) (b1_0 b1_1 b1_2 b1_3 : List (List D)) (b4_0 b4_1 b4_2 b4_3 b4_4 : Int) : St := ⟨[(1, .ptr (.loc 1) 0), (4, .ptr (.loc 4) 0), (12, .arr relC t12), (13, .val (.int .i64 t13)), (14, .val (.int .i64 t14)), (53, .arr relC t53), (54, .val (.int .i64 t54)), (55, .val (.int .i64 t55))], [(.loc 1, [.arr secC b1_0, .arr symC b1_1, .arr relC b1_2, .arr grpC b1_3]), (.loc 4, [.val (.int .i64 b4_0), .val (.int .i64 b4_1), .val (.int .u8 b4_2), .val (.int .i64 b4_3), .val (.int .i64 b4_4)])]⟩
noncomputable def rlst0 (t0_0 t0_1 t0_2 t0_3 : List (List D)) : Tr := (.ask (decide ((↑(List.length t0_2) : Int) > (256 : Int)))
  (.ret (.val (.bool (false)), []))
  (.go 0 rlsk1 (rlss1 (t0_2) ((↑(List.length t0_2) : Int)) ((0 : Int)) (t0_0) (t0_1) (t0_2) (t0_3))))
set_option maxRecDepth 100000 in
theorem rlsp0 (n : Nat) (t0_0 t0_1 t0_2 t0_3 : List (List D)) : exec eo3 (n + 25) (57, Try.f57, 0) rlsk0 (rlss0 t0_0 t0_1 t0_2 t0_3) = Tr.val eo3 (57, Try.f57, 0) n (rlst0 t0_0 t0_1 t0_2 t0_3) := by kernel_rfl
noncomputable def rlst1 (t12 : List (List D)) (t13 t14 : Int) (b1_0 b1_1 b1_2 b1_3 : List (List D)) : Tr := (.ask (decide (t14 < t13))
  (.ask (decide ((0 : Int) ≤ t14) && decide (t14 < (↑(List.length t12) : Int)))
  (.ask (pRck [normV CK.no (handed [] (.agg [V.val (.int .i64 (cellI t12 (Int.toNat t14) (0 : Nat))), V.val (.int .i64 (cellI t12 (Int.toNat t14) (1 : Nat))), V.val (.int .u8 (cellI t12 (Int.toNat t14) (2 : Nat))), V.val (.int .i64 (cellI t12 (Int.toNat t14) (3 : Nat))), V.val (.int .i64 (cellI t12 (Int.toNat t14) (4 : Nat)))])), normV (.sl secC) (handed [] (.arr secC b1_0)), normV CK.no (handed [] (.val (.int .i64 (↑(List.length b1_1) : Int))))])
  (.ask (relCk (cellI t12 (Int.toNat t14) (0 : Nat)) (cellI t12 (Int.toNat t14) (1 : Nat)) (cellI t12 (Int.toNat t14) (2 : Nat)) (cellI t12 (Int.toNat t14) (3 : Nat)) (cellI t12 (Int.toNat t14) (4 : Nat)) b1_0 (↑(List.length b1_1) : Int) != (0 : Int))
  (.ret (.val (.bool (false)), []))
  (.ask (cellI t12 (Int.toNat t14) (2 : Nat) == (43 : Int))
  (.ask (decide ((0 : Int) ≤ IntKind.wrap .i64 (cellI t12 (Int.toNat t14) (0 : Nat) - (1 : Int))) && decide (IntKind.wrap .i64 (cellI t12 (Int.toNat t14) (0 : Nat) - (1 : Int)) < (↑(List.length b1_0) : Int)))
  (.ask (okBounds (cellI t12 (Int.toNat t14) (1 : Nat)) (IntKind.wrap .i64 (cellI t12 (Int.toNat t14) (1 : Nat) + cellI t12 (Int.toNat t14) (4 : Nat))) (↑(List.length (cellA b1_0 (Int.toNat (IntKind.wrap .i64 (cellI t12 (Int.toNat t14) (0 : Nat) - (1 : Int)))) (2 : Nat))) : Int))
  (.ask (Info.pre eo3 (121 : Nat) [handed [] (.arr u8s (cut (cellA b1_0 (Int.toNat (IntKind.wrap .i64 (cellI t12 (Int.toNat t14) (0 : Nat) - (1 : Int)))) (2 : Nat)) (cellI t12 (Int.toNat t14) (1 : Nat)) (IntKind.wrap .i64 (cellI t12 (Int.toNat t14) (1 : Nat) + cellI t12 (Int.toNat t14) (4 : Nat)))))] [])
  (.ask (!fillB (cut (cellA b1_0 (Int.toNat (IntKind.wrap .i64 (cellI t12 (Int.toNat t14) (0 : Nat) - (1 : Int)))) (2 : Nat)) (cellI t12 (Int.toNat t14) (1 : Nat)) (IntKind.wrap .i64 (cellI t12 (Int.toNat t14) (1 : Nat) + cellI t12 (Int.toNat t14) (4 : Nat)))))
  (.ret (.val (.bool (false)), []))
  (.ask (okBounds (0 : Int) t14 (↑(List.length b1_2) : Int))
  (.go 0 rlsk2 (rlss2 (t12) (t13) (t14) (cut b1_2 (0 : Int) t14) ((↑(List.length (cut b1_2 (0 : Int) t14)) : Int)) ((0 : Int)) (b1_0) (b1_1) (b1_2) (b1_3) (cellI t12 (Int.toNat t14) (0 : Nat)) (cellI t12 (Int.toNat t14) (1 : Nat)) (cellI t12 (Int.toNat t14) (2 : Nat)) (cellI t12 (Int.toNat t14) (3 : Nat)) (cellI t12 (Int.toNat t14) (4 : Nat))))
  .fail))
  .fail)
  .fail)
  .fail)
  (.ask (okBounds (0 : Int) t14 (↑(List.length b1_2) : Int))
  (.go 0 rlsk2 (rlss2 (t12) (t13) (t14) (cut b1_2 (0 : Int) t14) ((↑(List.length (cut b1_2 (0 : Int) t14)) : Int)) ((0 : Int)) (b1_0) (b1_1) (b1_2) (b1_3) (cellI t12 (Int.toNat t14) (0 : Nat)) (cellI t12 (Int.toNat t14) (1 : Nat)) (cellI t12 (Int.toNat t14) (2 : Nat)) (cellI t12 (Int.toNat t14) (3 : Nat)) (cellI t12 (Int.toNat t14) (4 : Nat))))
  .fail)))
  .fail)
  .fail)
  (.ret (.val (.bool (true)), [])))
set_option maxRecDepth 100000 in
theorem rlsp1 (n : Nat) (t12 : List (List D)) (t13 t14 : Int) (b1_0 b1_1 b1_2 b1_3 : List (List D)) : exec eo3 (n + 72) (57, Try.f57, 0) rlsk1 (rlss1 t12 t13 t14 b1_0 b1_1 b1_2 b1_3) = Tr.val eo3 (57, Try.f57, 0) n (rlst1 t12 t13 t14 b1_0 b1_1 b1_2 b1_3) := by kernel_rfl
noncomputable def rlst2 (t12 : List (List D)) (t13 t14 : Int) (t53 : List (List D)) (t54 t55 : Int) (b1_0 b1_1 b1_2 b1_3 : List (List D)) (b4_0 b4_1 b4_2 b4_3 b4_4 : Int) : Tr := (.ask (decide (t55 < t54))
  (.ask (decide ((0 : Int) ≤ t55) && decide (t55 < (↑(List.length t53) : Int)))
  (.ask (decide (cellI t53 (Int.toNat t55) (0 : Nat) > b4_0))
  (.ret (.val (.bool (false)), []))
  (.ask (cellI t53 (Int.toNat t55) (0 : Nat) == b4_0)
  (.ask (decide (cellI t53 (Int.toNat t55) (1 : Nat) > b4_1))
  (.ret (.val (.bool (false)), []))
  (.ask (!apartB (cellI t53 (Int.toNat t55) (1 : Nat)) (cellI t53 (Int.toNat t55) (2 : Nat)) (cellI t53 (Int.toNat t55) (4 : Nat)) b4_1 b4_2 b4_4)
  (.ret (.val (.bool (false)), []))
  (.go 0 rlsk2 (rlss2 (t12) (t13) (t14) (t53) (t54) (IntKind.wrap .i64 (t55 + (1 : Int))) (b1_0) (b1_1) (b1_2) (b1_3) (b4_0) (b4_1) (b4_2) (b4_3) (b4_4)))))
  (.go 0 rlsk2 (rlss2 (t12) (t13) (t14) (t53) (t54) (IntKind.wrap .i64 (t55 + (1 : Int))) (b1_0) (b1_1) (b1_2) (b1_3) (b4_0) (b4_1) (b4_2) (b4_3) (b4_4)))))
  .fail)
  (.go 39 rlsk1 (rlss1 (t12) (t13) (IntKind.wrap .i64 (t14 + (1 : Int))) (b1_0) (b1_1) (b1_2) (b1_3))))
set_option maxRecDepth 100000 in
theorem rlsp2 (n : Nat) (t12 : List (List D)) (t13 t14 : Int) (t53 : List (List D)) (t54 t55 : Int) (b1_0 b1_1 b1_2 b1_3 : List (List D)) (b4_0 b4_1 b4_2 b4_3 b4_4 : Int) : exec eo3 (n + 52) (57, Try.f57, 0) rlsk2 (rlss2 t12 t13 t14 t53 t54 t55 b1_0 b1_1 b1_2 b1_3 b4_0 b4_1 b4_2 b4_3 b4_4) = Tr.val eo3 (57, Try.f57, 0) n (rlst2 t12 t13 t14 t53 t54 t55 b1_0 b1_1 b1_2 b1_3 b4_0 b4_1 b4_2 b4_3 b4_4) := by kernel_rfl
noncomputable def ckok0 : List T := [.code (sub (bodyOf Try.f22) [])]
def ckos0 (t0_0 t0_1 t0_2 t0_3 : List (List D)) : St := ⟨[(0, .agg [.arr secC t0_0, .arr symC t0_1, .arr relC t0_2, .arr grpC t0_3])], []⟩
noncomputable def ckok1 : List T := [.code (sub (bodyOf Try.f22) [1, 1, 0, 1, 0, 0]), .lp (sub (bodyOf Try.f22) [1, 1, 0, 1, 0, 0]), .blk 0, .code (sub (bodyOf Try.f22) [1, 1, 1])]
def ckos1 (t3 : Bool) (t11 : List (List D)) (t12 t13 : Int) (b1_0 b1_1 b1_2 b1_3 : List (List D)) : St := ⟨[(1, .ptr (.loc 1) 0), (3, .val (.bool t3)), (11, .arr secC t11), (12, .val (.int .i64 t12)), (13, .val (.int .i64 t13))], [(.loc 1, [.arr secC b1_0, .arr symC b1_1, .arr relC b1_2, .arr grpC b1_3])]⟩
noncomputable def ckot0 (t0_0 t0_1 t0_2 t0_3 : List (List D)) : Tr := (.go 0 ckok1 (ckos1 (decide ((↑(List.length t0_0) : Int) ≤ (16 : Int))) (t0_0) ((↑(List.length t0_0) : Int)) ((0 : Int)) (t0_0) (t0_1) (t0_2) (t0_3)))
set_option maxRecDepth 100000 in
theorem ckop0 (n : Nat) (t0_0 t0_1 t0_2 t0_3 : List (List D)) : exec ep4 (n + 23) (22, Try.f22, 0) ckok0 (ckos0 t0_0 t0_1 t0_2 t0_3) = Tr.val ep4 (22, Try.f22, 0) n (ckot0 t0_0 t0_1 t0_2 t0_3) := by kernel_rfl
noncomputable def ckot1 (t3 : Bool) (t11 : List (List D)) (t12 t13 : Int) (b1_0 b1_1 b1_2 b1_3 : List (List D)) : Tr := (.ask (decide (t13 < t12))
  (.ask (decide ((0 : Int) ≤ t13) && decide (t13 < (↑(List.length t11) : Int)))
  (.ask (t3)
  (.go 4 ckok1 (ckos1 (secE (cellS t11 (Int.toNat t13) (0 : Nat)) (cellI t11 (Int.toNat t13) (1 : Nat)) (↑(List.length (cellA t11 (Int.toNat t13) (2 : Nat))) : Int) (cellI t11 (Int.toNat t13) (3 : Nat)) == (0 : Int)) (t11) (t12) (IntKind.wrap .i64 (t13 + (1 : Int))) (b1_0) (b1_1) (b1_2) (b1_3)))
  (.go 4 ckok1 (ckos1 (false) (t11) (t12) (IntKind.wrap .i64 (t13 + (1 : Int))) (b1_0) (b1_1) (b1_2) (b1_3))))
  .fail)
  (.ask (!t3)
  (.ret (.val (.int .i64 ((8 : Int))), []))
  (.ask (pSyms [normV (.ag [some secC, some symC, some relC, some grpC]) (handed [] (.agg [V.arr secC b1_0, V.arr symC b1_1, V.arr relC b1_2, V.arr grpC b1_3]))])
  (.ask (!symsB b1_0 b1_1)
  (.ret (.val (.int .i64 ((8 : Int))), []))
  (.ask (pRls [normV (.ag [some secC, some symC, some relC, some grpC]) (handed [] (.agg [V.arr secC b1_0, V.arr symC b1_1, V.arr relC b1_2, V.arr grpC b1_3]))])
  (.ask (!relsB b1_0 b1_1 b1_2)
  (.ret (.val (.int .i64 ((8 : Int))), []))
  (.ask (pGrps [normV (.ag [some secC, some symC, some relC, some grpC]) (handed [] (.agg [V.arr secC b1_0, V.arr symC b1_1, V.arr relC b1_2, V.arr grpC b1_3]))])
  (.ask (!grpsB b1_0 b1_3)
  (.ret (.val (.int .i64 ((8 : Int))), []))
  (.ret (V.val (.int .i64 (0 : Int)), [])))
  .fail))
  .fail))
  .fail)))
set_option maxRecDepth 100000 in
theorem ckop1 (n : Nat) (t3 : Bool) (t11 : List (List D)) (t12 t13 : Int) (b1_0 b1_1 b1_2 b1_3 : List (List D)) : exec ep4 (n + 35) (22, Try.f22, 0) ckok1 (ckos1 t3 t11 t12 t13 b1_0 b1_1 b1_2 b1_3) = Tr.val ep4 (22, Try.f22, 0) n (ckot1 t3 t11 t12 t13 b1_0 b1_1 b1_2 b1_3) := by kernel_rfl
noncomputable def wrtk0 : List T := [.code (sub (bodyOf Try.f24) [])]
def wrts0 (t0_0 t0_1 t0_2 t0_3 : List (List D)) : St := ⟨[(0, .agg [.arr secC t0_0, .arr symC t0_1, .arr relC t0_2, .arr grpC t0_3])], []⟩
noncomputable def wrtk1 : List T := [.code (sub (bodyOf Try.f24) [1, 1, 1, 1, 1, 1, 1, 1, 1, 0, 1, 0, 0]), .lp (sub (bodyOf Try.f24) [1, 1, 1, 1, 1, 1, 1, 1, 1, 0, 1, 0, 0]), .blk 2, .code (sub (bodyOf Try.f24) [1, 1, 1, 1, 1, 1, 1, 1, 1, 1])]
def wrts1 (t9 t11 : List (List D)) (t13 : Int) (t68 : List (List D)) (t69 t70 : Int) (b25_0 b25_1 b25_2 : List (List D)) : St := ⟨[(5, .ptr (.loc 25) 0), (9, .own [CT.int .i64] t9), (11, .uni u8s t11), (13, .val (.int .i64 t13)), (68, .arr hdT t68), (69, .val (.int .i64 t69)), (70, .val (.int .i64 t70))], [(.loc 25, [.arr u8s b25_0, .own hdT b25_1, .own [.str] b25_2])]⟩
noncomputable def wrtt0 (t0_0 t0_1 t0_2 t0_3 : List (List D)) : Tr := (.ask (pChkO [normV (.ag [some secC, some symC, some relC, some grpC]) (handed [] (.agg [V.arr secC t0_0, V.arr symC t0_1, V.arr relC t0_2, V.arr grpC t0_3]))])
  (.ask ((if chkB t0_0 t0_1 t0_2 t0_3 = true then (0 : Int) else (8 : Int)) != (0 : Int))
  (.ret (.tup [.val nilSlice, .val (.int .i64 (if chkB t0_0 t0_1 t0_2 t0_3 = true then (0 : Int) else (8 : Int)))], []))
  (.ask (pScs [normV CK.no (handed [Key.loc (25 : Nat)] (V.ptr (Key.loc (25 : Nat)) (0 : Nat))), normV (.ag [some secC, some symC, some relC, some grpC]) (handed [Key.loc (25 : Nat)] (V.agg [V.arr secC t0_0, V.arr symC t0_1, V.arr relC t0_2, V.arr grpC t0_3]))] [nilO (BK.arr u8s) (V.arr u8s (List.replicate (64 : Nat) [D.int (0 : Int)])), nilO (BK.own hdT) (V.val (Value.slice none (0 : Nat) (0 : Nat))), nilO (BK.own [.str]) (V.val (Value.slice none (0 : Nat) (0 : Nat)))])
  (.ask (pRst [normV CK.no (handed [Key.loc (25 : Nat)] (V.ptr (Key.loc (25 : Nat)) (0 : Nat))), normV (.ag [some secC, some symC, some relC, some grpC]) (handed [Key.loc (25 : Nat)] (V.agg [V.arr secC t0_0, V.arr symC t0_1, V.arr relC t0_2, V.arr grpC t0_3]))] (nilOs [BK.arr u8s, BK.own hdT, BK.own [.str]] [V.arr u8s (Fl.b (secsF (grpMap t0_3 []) t0_0 (0 : Nat) { b := List.replicate (64 : Nat) [D.int (0 : Int)], heads := [], names := [] })), V.own hdT (Fl.heads (secsF (grpMap t0_3 []) t0_0 (0 : Nat) { b := List.replicate (64 : Nat) [D.int (0 : Int)], heads := [], names := [] })), V.own [.str] (Fl.names (secsF (grpMap t0_3 []) t0_0 (0 : Nat) { b := List.replicate (64 : Nat) [D.int (0 : Int)], heads := [], names := [] }))]))
  (.ask (pClnS [normV (.sl [.str]) (handed [] (.arr [.str] (Fl.names (restF t0_0 t0_1 t0_2 t0_3 (secsF (grpMap t0_3 []) t0_0 (0 : Nat) { b := List.replicate (64 : Nat) [D.int (0 : Int)], heads := [], names := [] })))))])
  (.ask (decide ((List.length (Fl.names (restF t0_0 t0_1 t0_2 t0_3 (secsF (grpMap t0_3 []) t0_0 (0 : Nat) { b := List.replicate (64 : Nat) [D.int (0 : Int)], heads := [], names := [] }))) + (1 : Nat)) * (16 : Nat) ≤ (70368744177664 : Nat)) && decide (List.length (Fl.names (restF t0_0 t0_1 t0_2 t0_3 (secsF (grpMap t0_3 []) t0_0 (0 : Nat) { b := List.replicate (64 : Nat) [D.int (0 : Int)], heads := [], names := [] }))) + (1 : Nat) ≤ (70368744177664 : Nat)))
  (.ask (pPart [normV CK.no (handed [Key.loc (25 : Nat)] (V.ptr (Key.loc (25 : Nat)) (0 : Nat))), normV CK.no (handed [Key.loc (25 : Nat)] (V.val (Value.string { data := #[(46 : UInt8), (115 : UInt8), (104 : UInt8), (115 : UInt8), (116 : UInt8), (114 : UInt8), (116 : UInt8), (97 : UInt8), (98 : UInt8)] }))), normV CK.no (handed [Key.loc (25 : Nat)] (V.agg [V.val (.int .i64 (0 : Int)), V.val (.int .i64 (3 : Int)), V.val (.int .i64 (0 : Int)), V.val (.int .i64 (0 : Int)), V.val (.int .i64 (0 : Int)), V.val (.int .i64 (0 : Int)), V.val (.int .i64 (0 : Int)), V.val (.int .i64 (0 : Int)), V.val (.int .i64 (1 : Int)), V.val (.int .i64 (0 : Int))])), normV (.sl u8s) (handed [Key.loc (25 : Nat)] (V.own u8s (Bld.t (bldR (Fl.names (restF t0_0 t0_1 t0_2 t0_3 (secsF (grpMap t0_3 []) t0_0 (0 : Nat) { b := List.replicate (64 : Nat) [D.int (0 : Int)], heads := [], names := [] })) ++ [[D.str { data := #[(46 : UInt8), (115 : UInt8), (104 : UInt8), (115 : UInt8), (116 : UInt8), (114 : UInt8), (116 : UInt8), (97 : UInt8), (98 : UInt8)] }]])))))] (nilOs [BK.arr u8s, BK.own hdT, BK.own [.str]] [V.arr u8s (Fl.b (restF t0_0 t0_1 t0_2 t0_3 (secsF (grpMap t0_3 []) t0_0 (0 : Nat) { b := List.replicate (64 : Nat) [D.int (0 : Int)], heads := [], names := [] }))), V.own hdT (Fl.heads (restF t0_0 t0_1 t0_2 t0_3 (secsF (grpMap t0_3 []) t0_0 (0 : Nat) { b := List.replicate (64 : Nat) [D.int (0 : Int)], heads := [], names := [] }))), V.own [.str] (Fl.names (restF t0_0 t0_1 t0_2 t0_3 (secsF (grpMap t0_3 []) t0_0 (0 : Nat) { b := List.replicate (64 : Nat) [D.int (0 : Int)], heads := [], names := [] })))]))
  (.ask (pPad [normV (.sl u8s) (handed [] (.arr u8s (Fl.b (partF (restF t0_0 t0_1 t0_2 t0_3 (secsF (grpMap t0_3 []) t0_0 (0 : Nat) { b := List.replicate (64 : Nat) [D.int (0 : Int)], heads := [], names := [] })) { data := #[(46 : UInt8), (115 : UInt8), (104 : UInt8), (115 : UInt8), (116 : UInt8), (114 : UInt8), (116 : UInt8), (97 : UInt8), (98 : UInt8)] } { name := (0 : Int), type := (3 : Int), flags := (0 : Int), addr := (0 : Int), offset := (0 : Int), size := (0 : Int), link := (0 : Int), info := (0 : Int), align := (1 : Int), entry := (0 : Int) } (Bld.t (bldR (Fl.names (restF t0_0 t0_1 t0_2 t0_3 (secsF (grpMap t0_3 []) t0_0 (0 : Nat) { b := List.replicate (64 : Nat) [D.int (0 : Int)], heads := [], names := [] })) ++ [[D.str { data := #[(46 : UInt8), (115 : UInt8), (104 : UInt8), (115 : UInt8), (116 : UInt8), (114 : UInt8), (116 : UInt8), (97 : UInt8), (98 : UInt8)] }]]))))))), handed [] (.val (.int .i64 (8 : Int)))])
  (.ask (decide ((List.length (padB (Fl.b (partF (restF t0_0 t0_1 t0_2 t0_3 (secsF (grpMap t0_3 []) t0_0 (0 : Nat) { b := List.replicate (64 : Nat) [D.int (0 : Int)], heads := [], names := [] })) { data := #[(46 : UInt8), (115 : UInt8), (104 : UInt8), (115 : UInt8), (116 : UInt8), (114 : UInt8), (116 : UInt8), (97 : UInt8), (98 : UInt8)] } { name := (0 : Int), type := (3 : Int), flags := (0 : Int), addr := (0 : Int), offset := (0 : Int), size := (0 : Int), link := (0 : Int), info := (0 : Int), align := (1 : Int), entry := (0 : Int) } (Bld.t (bldR (Fl.names (restF t0_0 t0_1 t0_2 t0_3 (secsF (grpMap t0_3 []) t0_0 (0 : Nat) { b := List.replicate (64 : Nat) [D.int (0 : Int)], heads := [], names := [] })) ++ [[D.str { data := #[(46 : UInt8), (115 : UInt8), (104 : UInt8), (115 : UInt8), (116 : UInt8), (114 : UInt8), (116 : UInt8), (97 : UInt8), (98 : UInt8)] }]]))))) (8 : Int)) + (64 : Nat)) * (1 : Nat) ≤ (70368744177664 : Nat)) && decide (List.length (padB (Fl.b (partF (restF t0_0 t0_1 t0_2 t0_3 (secsF (grpMap t0_3 []) t0_0 (0 : Nat) { b := List.replicate (64 : Nat) [D.int (0 : Int)], heads := [], names := [] })) { data := #[(46 : UInt8), (115 : UInt8), (104 : UInt8), (115 : UInt8), (116 : UInt8), (114 : UInt8), (116 : UInt8), (97 : UInt8), (98 : UInt8)] } { name := (0 : Int), type := (3 : Int), flags := (0 : Int), addr := (0 : Int), offset := (0 : Int), size := (0 : Int), link := (0 : Int), info := (0 : Int), align := (1 : Int), entry := (0 : Int) } (Bld.t (bldR (Fl.names (restF t0_0 t0_1 t0_2 t0_3 (secsF (grpMap t0_3 []) t0_0 (0 : Nat) { b := List.replicate (64 : Nat) [D.int (0 : Int)], heads := [], names := [] })) ++ [[D.str { data := #[(46 : UInt8), (115 : UInt8), (104 : UInt8), (115 : UInt8), (116 : UInt8), (114 : UInt8), (116 : UInt8), (97 : UInt8), (98 : UInt8)] }]]))))) (8 : Int)) + (64 : Nat) ≤ (70368744177664 : Nat)))
  (.go 0 wrtk1 (wrts1 (Bld.p (bldR (Fl.names (restF t0_0 t0_1 t0_2 t0_3 (secsF (grpMap t0_3 []) t0_0 (0 : Nat) { b := List.replicate (64 : Nat) [D.int (0 : Int)], heads := [], names := [] })) ++ [[D.str { data := #[(46 : UInt8), (115 : UInt8), (104 : UInt8), (115 : UInt8), (116 : UInt8), (114 : UInt8), (116 : UInt8), (97 : UInt8), (98 : UInt8)] }]]))) (padB (Fl.b (partF (restF t0_0 t0_1 t0_2 t0_3 (secsF (grpMap t0_3 []) t0_0 (0 : Nat) { b := List.replicate (64 : Nat) [D.int (0 : Int)], heads := [], names := [] })) { data := #[(46 : UInt8), (115 : UInt8), (104 : UInt8), (115 : UInt8), (116 : UInt8), (114 : UInt8), (116 : UInt8), (97 : UInt8), (98 : UInt8)] } { name := (0 : Int), type := (3 : Int), flags := (0 : Int), addr := (0 : Int), offset := (0 : Int), size := (0 : Int), link := (0 : Int), info := (0 : Int), align := (1 : Int), entry := (0 : Int) } (Bld.t (bldR (Fl.names (restF t0_0 t0_1 t0_2 t0_3 (secsF (grpMap t0_3 []) t0_0 (0 : Nat) { b := List.replicate (64 : Nat) [D.int (0 : Int)], heads := [], names := [] })) ++ [[D.str { data := #[(46 : UInt8), (115 : UInt8), (104 : UInt8), (115 : UInt8), (116 : UInt8), (114 : UInt8), (116 : UInt8), (97 : UInt8), (98 : UInt8)] }]]))))) (8 : Int) ++ List.replicate (64 : Nat) [D.int (0 : Int)]) ((↑(List.length (padB (Fl.b (partF (restF t0_0 t0_1 t0_2 t0_3 (secsF (grpMap t0_3 []) t0_0 (0 : Nat) { b := List.replicate (64 : Nat) [D.int (0 : Int)], heads := [], names := [] })) { data := #[(46 : UInt8), (115 : UInt8), (104 : UInt8), (115 : UInt8), (116 : UInt8), (114 : UInt8), (116 : UInt8), (97 : UInt8), (98 : UInt8)] } { name := (0 : Int), type := (3 : Int), flags := (0 : Int), addr := (0 : Int), offset := (0 : Int), size := (0 : Int), link := (0 : Int), info := (0 : Int), align := (1 : Int), entry := (0 : Int) } (Bld.t (bldR (Fl.names (restF t0_0 t0_1 t0_2 t0_3 (secsF (grpMap t0_3 []) t0_0 (0 : Nat) { b := List.replicate (64 : Nat) [D.int (0 : Int)], heads := [], names := [] })) ++ [[D.str { data := #[(46 : UInt8), (115 : UInt8), (104 : UInt8), (115 : UInt8), (116 : UInt8), (114 : UInt8), (116 : UInt8), (97 : UInt8), (98 : UInt8)] }]]))))) (8 : Int))) : Int)) (Fl.heads (partF (restF t0_0 t0_1 t0_2 t0_3 (secsF (grpMap t0_3 []) t0_0 (0 : Nat) { b := List.replicate (64 : Nat) [D.int (0 : Int)], heads := [], names := [] })) { data := #[(46 : UInt8), (115 : UInt8), (104 : UInt8), (115 : UInt8), (116 : UInt8), (114 : UInt8), (116 : UInt8), (97 : UInt8), (98 : UInt8)] } { name := (0 : Int), type := (3 : Int), flags := (0 : Int), addr := (0 : Int), offset := (0 : Int), size := (0 : Int), link := (0 : Int), info := (0 : Int), align := (1 : Int), entry := (0 : Int) } (Bld.t (bldR (Fl.names (restF t0_0 t0_1 t0_2 t0_3 (secsF (grpMap t0_3 []) t0_0 (0 : Nat) { b := List.replicate (64 : Nat) [D.int (0 : Int)], heads := [], names := [] })) ++ [[D.str { data := #[(46 : UInt8), (115 : UInt8), (104 : UInt8), (115 : UInt8), (116 : UInt8), (114 : UInt8), (116 : UInt8), (97 : UInt8), (98 : UInt8)] }]]))))) ((↑(List.length (Fl.heads (partF (restF t0_0 t0_1 t0_2 t0_3 (secsF (grpMap t0_3 []) t0_0 (0 : Nat) { b := List.replicate (64 : Nat) [D.int (0 : Int)], heads := [], names := [] })) { data := #[(46 : UInt8), (115 : UInt8), (104 : UInt8), (115 : UInt8), (116 : UInt8), (114 : UInt8), (116 : UInt8), (97 : UInt8), (98 : UInt8)] } { name := (0 : Int), type := (3 : Int), flags := (0 : Int), addr := (0 : Int), offset := (0 : Int), size := (0 : Int), link := (0 : Int), info := (0 : Int), align := (1 : Int), entry := (0 : Int) } (Bld.t (bldR (Fl.names (restF t0_0 t0_1 t0_2 t0_3 (secsF (grpMap t0_3 []) t0_0 (0 : Nat) { b := List.replicate (64 : Nat) [D.int (0 : Int)], heads := [], names := [] })) ++ [[D.str { data := #[(46 : UInt8), (115 : UInt8), (104 : UInt8), (115 : UInt8), (116 : UInt8), (114 : UInt8), (116 : UInt8), (97 : UInt8), (98 : UInt8)] }]])))))) : Int)) ((0 : Int)) (Fl.b (partF (restF t0_0 t0_1 t0_2 t0_3 (secsF (grpMap t0_3 []) t0_0 (0 : Nat) { b := List.replicate (64 : Nat) [D.int (0 : Int)], heads := [], names := [] })) { data := #[(46 : UInt8), (115 : UInt8), (104 : UInt8), (115 : UInt8), (116 : UInt8), (114 : UInt8), (116 : UInt8), (97 : UInt8), (98 : UInt8)] } { name := (0 : Int), type := (3 : Int), flags := (0 : Int), addr := (0 : Int), offset := (0 : Int), size := (0 : Int), link := (0 : Int), info := (0 : Int), align := (1 : Int), entry := (0 : Int) } (Bld.t (bldR (Fl.names (restF t0_0 t0_1 t0_2 t0_3 (secsF (grpMap t0_3 []) t0_0 (0 : Nat) { b := List.replicate (64 : Nat) [D.int (0 : Int)], heads := [], names := [] })) ++ [[D.str { data := #[(46 : UInt8), (115 : UInt8), (104 : UInt8), (115 : UInt8), (116 : UInt8), (114 : UInt8), (116 : UInt8), (97 : UInt8), (98 : UInt8)] }]]))))) (Fl.heads (partF (restF t0_0 t0_1 t0_2 t0_3 (secsF (grpMap t0_3 []) t0_0 (0 : Nat) { b := List.replicate (64 : Nat) [D.int (0 : Int)], heads := [], names := [] })) { data := #[(46 : UInt8), (115 : UInt8), (104 : UInt8), (115 : UInt8), (116 : UInt8), (114 : UInt8), (116 : UInt8), (97 : UInt8), (98 : UInt8)] } { name := (0 : Int), type := (3 : Int), flags := (0 : Int), addr := (0 : Int), offset := (0 : Int), size := (0 : Int), link := (0 : Int), info := (0 : Int), align := (1 : Int), entry := (0 : Int) } (Bld.t (bldR (Fl.names (restF t0_0 t0_1 t0_2 t0_3 (secsF (grpMap t0_3 []) t0_0 (0 : Nat) { b := List.replicate (64 : Nat) [D.int (0 : Int)], heads := [], names := [] })) ++ [[D.str { data := #[(46 : UInt8), (115 : UInt8), (104 : UInt8), (115 : UInt8), (116 : UInt8), (114 : UInt8), (116 : UInt8), (97 : UInt8), (98 : UInt8)] }]]))))) (Fl.names (partF (restF t0_0 t0_1 t0_2 t0_3 (secsF (grpMap t0_3 []) t0_0 (0 : Nat) { b := List.replicate (64 : Nat) [D.int (0 : Int)], heads := [], names := [] })) { data := #[(46 : UInt8), (115 : UInt8), (104 : UInt8), (115 : UInt8), (116 : UInt8), (114 : UInt8), (116 : UInt8), (97 : UInt8), (98 : UInt8)] } { name := (0 : Int), type := (3 : Int), flags := (0 : Int), addr := (0 : Int), offset := (0 : Int), size := (0 : Int), link := (0 : Int), info := (0 : Int), align := (1 : Int), entry := (0 : Int) } (Bld.t (bldR (Fl.names (restF t0_0 t0_1 t0_2 t0_3 (secsF (grpMap t0_3 []) t0_0 (0 : Nat) { b := List.replicate (64 : Nat) [D.int (0 : Int)], heads := [], names := [] })) ++ [[D.str { data := #[(46 : UInt8), (115 : UInt8), (104 : UInt8), (115 : UInt8), (116 : UInt8), (114 : UInt8), (116 : UInt8), (97 : UInt8), (98 : UInt8)] }]])))))))
  .fail)
  .fail)
  .fail)
  .fail)
  .fail)
  .fail)
  .fail))
  .fail)
set_option maxRecDepth 100000 in
theorem wrtp0 (n : Nat) (t0_0 t0_1 t0_2 t0_3 : List (List D)) : exec ep5 (n + 159) (24, Try.f24, 0) wrtk0 (wrts0 t0_0 t0_1 t0_2 t0_3) = Tr.val ep5 (24, Try.f24, 0) n (wrtt0 t0_0 t0_1 t0_2 t0_3) := by kernel_rfl
noncomputable def wrtt1 (t9 t11 : List (List D)) (t13 : Int) (t68 : List (List D)) (t69 t70 : Int) (b25_0 b25_1 b25_2 : List (List D)) : Tr := (.ask (decide (t70 < t69))
  (.ask (decide ((0 : Int) ≤ t70) && decide (t70 < (↑(List.length t68) : Int)))
  (.ask (decide ((0 : Int) ≤ t70) && decide (t70 < (↑(List.length t9) : Int)))
  (.ask (decide ((List.length t11 + List.length (if Hd.ok { name := cellI t9 (Int.toNat t70) (0 : Nat), type := cellI t68 (Int.toNat t70) (1 : Nat), flags := cellI t68 (Int.toNat t70) (2 : Nat), addr := cellI t68 (Int.toNat t70) (3 : Nat), offset := cellI t68 (Int.toNat t70) (4 : Nat), size := cellI t68 (Int.toNat t70) (5 : Nat), link := cellI t68 (Int.toNat t70) (6 : Nat), info := cellI t68 (Int.toNat t70) (7 : Nat), align := cellI t68 (Int.toNat t70) (8 : Nat), entry := cellI t68 (Int.toNat t70) (9 : Nat) } = true then Hd.b { name := cellI t9 (Int.toNat t70) (0 : Nat), type := cellI t68 (Int.toNat t70) (1 : Nat), flags := cellI t68 (Int.toNat t70) (2 : Nat), addr := cellI t68 (Int.toNat t70) (3 : Nat), offset := cellI t68 (Int.toNat t70) (4 : Nat), size := cellI t68 (Int.toNat t70) (5 : Nat), link := cellI t68 (Int.toNat t70) (6 : Nat), info := cellI t68 (Int.toNat t70) (7 : Nat), align := cellI t68 (Int.toNat t70) (8 : Nat), entry := cellI t68 (Int.toNat t70) (9 : Nat) } else [])) * (1 : Nat) ≤ (70368744177664 : Nat)) && decide (List.length t11 + List.length (if Hd.ok { name := cellI t9 (Int.toNat t70) (0 : Nat), type := cellI t68 (Int.toNat t70) (1 : Nat), flags := cellI t68 (Int.toNat t70) (2 : Nat), addr := cellI t68 (Int.toNat t70) (3 : Nat), offset := cellI t68 (Int.toNat t70) (4 : Nat), size := cellI t68 (Int.toNat t70) (5 : Nat), link := cellI t68 (Int.toNat t70) (6 : Nat), info := cellI t68 (Int.toNat t70) (7 : Nat), align := cellI t68 (Int.toNat t70) (8 : Nat), entry := cellI t68 (Int.toNat t70) (9 : Nat) } = true then Hd.b { name := cellI t9 (Int.toNat t70) (0 : Nat), type := cellI t68 (Int.toNat t70) (1 : Nat), flags := cellI t68 (Int.toNat t70) (2 : Nat), addr := cellI t68 (Int.toNat t70) (3 : Nat), offset := cellI t68 (Int.toNat t70) (4 : Nat), size := cellI t68 (Int.toNat t70) (5 : Nat), link := cellI t68 (Int.toNat t70) (6 : Nat), info := cellI t68 (Int.toNat t70) (7 : Nat), align := cellI t68 (Int.toNat t70) (8 : Nat), entry := cellI t68 (Int.toNat t70) (9 : Nat) } else []) ≤ (70368744177664 : Nat)))
  (.go 0 wrtk1 (wrts1 (t9) (t11 ++ if Hd.ok { name := cellI t9 (Int.toNat t70) (0 : Nat), type := cellI t68 (Int.toNat t70) (1 : Nat), flags := cellI t68 (Int.toNat t70) (2 : Nat), addr := cellI t68 (Int.toNat t70) (3 : Nat), offset := cellI t68 (Int.toNat t70) (4 : Nat), size := cellI t68 (Int.toNat t70) (5 : Nat), link := cellI t68 (Int.toNat t70) (6 : Nat), info := cellI t68 (Int.toNat t70) (7 : Nat), align := cellI t68 (Int.toNat t70) (8 : Nat), entry := cellI t68 (Int.toNat t70) (9 : Nat) } = true then Hd.b { name := cellI t9 (Int.toNat t70) (0 : Nat), type := cellI t68 (Int.toNat t70) (1 : Nat), flags := cellI t68 (Int.toNat t70) (2 : Nat), addr := cellI t68 (Int.toNat t70) (3 : Nat), offset := cellI t68 (Int.toNat t70) (4 : Nat), size := cellI t68 (Int.toNat t70) (5 : Nat), link := cellI t68 (Int.toNat t70) (6 : Nat), info := cellI t68 (Int.toNat t70) (7 : Nat), align := cellI t68 (Int.toNat t70) (8 : Nat), entry := cellI t68 (Int.toNat t70) (9 : Nat) } else []) (t13) (t68) (t69) (IntKind.wrap .i64 (t70 + (1 : Int))) (b25_0) (b25_1) (b25_2)))
  .fail)
  .fail)
  .fail)
  (.ask (decide ((0 : Nat) < List.length t11))
  (.ask (decide ((↑(List.length t11) : Int) > (65536 : Int)))
  (.ret (.tup [.val nilSlice, .val (.int .i64 ((9 : Int)))], []))
  (.ret (.tup [.uni u8s (List.take (List.length t11) (List.take (List.length t11) (firstB t13 (IntKind.wrap .i64 ((↑(List.length b25_1) : Int) + (1 : Int)))) ++ List.drop ((0 : Nat) + min (List.length (firstB t13 (IntKind.wrap .i64 ((↑(List.length b25_1) : Int) + (1 : Int))))) (List.length t11)) t11)), V.val (.int .i64 (0 : Int))], [])))
  .fail))
set_option maxRecDepth 100000 in
theorem wrtp1 (n : Nat) (t9 t11 : List (List D)) (t13 : Int) (t68 : List (List D)) (t69 t70 : Int) (b25_0 b25_1 b25_2 : List (List D)) : exec ep5 (n + 49) (24, Try.f24, 0) wrtk1 (wrts1 t9 t11 t13 t68 t69 t70 b25_0 b25_1 b25_2) = Tr.val ep5 (24, Try.f24, 0) n (wrtt1 t9 t11 t13 t68 t69 t70 b25_0 b25_1 b25_2) := by kernel_rfl
end Go.Proofs.Ytkcopbnaleiocaa.Ev
namespace Go.Proofs.Ytkcopbnaleiocaa.Ev
open Go
set_option linter.unusedVariables false
set_option linter.unusedSimpArgs false
theorem cut0 (xs : List (List D)) (i : Nat) : cut xs 0 (i : Int) = xs.take i := by simp [cut]
theorem relsOk_get {L : List (List D)} (h : relsOk L = true) {e : List D} (he : e ∈ L) : 0 ≤ rI e 2 ∧ rI e 2 ≤ 255 := by
  have := List.all_eq_true.1 h e he
  simp only [Bool.and_eq_true, decide_eq_true_eq] at this
  exact this
theorem ok_no {c : Bool} {t : Tr} (h : ((Tr.ask c (.ret (.val (.bool false), [])) t).okB).getD false = true) : c = false ∧ (t.okB).getD false = true := by
  cases c with
  | true => exact absurd (show false = true from h) (by simp)
  | false => exact ⟨rfl, h⟩
theorem ok_if {c : Bool} {s t : Tr} (h : ((Tr.ask c s t).okB).getD false = true) : (c = true ∧ (s.okB).getD false = true) ∨ (c = false ∧ (t.okB).getD false = true) := by
  cases c with
  | true => exact .inl ⟨rfl, h⟩
  | false => exact .inr ⟨rfl, h⟩
theorem ok_need {c : Bool} {t : Tr} (h : ((Tr.ask c t .fail).okB).getD false = true) : (t.okB).getD false = true := by
  cases c with
  | true => exact h
  | false => exact absurd (show false = true from h) (by simp)
theorem ok_ret {b : Bool} (h : ((Tr.ret (.val (.bool b), [])).okB).getD false = true) : b = true := h
theorem tail_in {c n : Int} {p q : Bool} (h : ((Tr.ask p (.ask q (.ret (.val (.bool (c == -1)), [])) (.ask (decide (c ≥ 0)) (.ret (.val (.bool (decide (c < n))), [])) (.ret (.val (.bool false), [])))) .fail).okB).getD false = true) : c = -1 ∨ (0 ≤ c ∧ c < n) := by
  have h := ok_need h
  rcases ok_if h with ⟨_, h⟩ | ⟨_, h⟩
  · exact .inl (by simpa using ok_ret h)
  · rcases ok_if h with ⟨h1, h⟩ | ⟨_, h⟩
    · exact .inr ⟨by simpa using h1, by simpa using ok_ret h⟩
    · exact absurd (ok_ret h) (by simp)
theorem may_in {b k c d : Int} {nm : ByteArray} {x : List (List D)} {n : Int} (h : mayB b k c d nm x n = true) :
    fieldE k = 0 ∧ 0 ≤ b ∧ (k = 43 → b ≤ IntKind.wrap .i64 (x.length - if fieldN k < d then d else fieldN k)) ∧ (k ≠ 43 → b ≤ IntKind.wrap .i64 (x.length - fieldN k)) ∧ -2147483648 ≤ d ∧ d ≤ 4294967295 ∧ (k = 43 → 0 ≤ d ∧ d ≤ 62) ∧ (c = -1 ∨ (0 ≤ c ∧ c < n)) := by
  unfold mayB mayt0 at h
  rcases ok_if h with ⟨hk, h⟩ | ⟨hk, h⟩ <;> obtain ⟨a1, h⟩ := ok_no h <;> obtain ⟨a2, h⟩ := ok_no h <;> obtain ⟨a3, h⟩ := ok_no h <;> obtain ⟨a4, h⟩ := ok_no h <;> obtain ⟨a5, h⟩ := ok_no h <;> obtain ⟨a6, h⟩ := ok_no h <;> have h := ok_need h <;>
    rcases ok_if h with ⟨_, h⟩ | ⟨_, h⟩ <;> (try (obtain ⟨_, h⟩ := ok_no h; obtain ⟨_, h⟩ := ok_no h)) <;> have h := ok_need h <;>
    rcases ok_if h with ⟨_, h⟩ | ⟨_, h⟩ <;> (try (obtain ⟨_, h⟩ := ok_no h)) <;>
    rcases ok_if h with ⟨k43, h⟩ | ⟨k43, h⟩ <;> simp only [beq_iff_eq, beq_eq_false_iff_ne, ne_eq, bne_eq_false_iff_eq, decide_eq_false_iff_not] at hk k43 a1 a3 a4 a5 a6 <;>
    first
      | exact absurd hk k43
      | exact absurd k43 hk
      | (obtain ⟨b1, h⟩ := ok_no h; obtain ⟨b2, h⟩ := ok_no h; obtain ⟨_, h⟩ := ok_no h; simp only [decide_eq_false_iff_not] at b1 b2; exact ⟨a1, by omega, fun _ => by omega, fun hn => absurd hk hn, by omega, by omega, fun _ => ⟨by omega, by omega⟩, tail_in h⟩)
      | exact ⟨a1, by omega, fun hn => absurd hn hk, fun _ => by omega, by omega, by omega, fun hn => absurd hn hk, tail_in h⟩
theorem fieldN_in (k : Int) : 0 ≤ fieldN k ∧ fieldN k ≤ 8 := by
  unfold fieldN
  repeat' split
  all_goals omega
theorem relCk_in {a b k c d : Int} {S : List (List D)} {n : Int} (h : relCk a b k c d S n = 0) : 1 ≤ a ∧ a ≤ S.length ∧ secAll S = true ∧ n ≤ 64 ∧ mayB b k c d (rS (S.getD (a - 1).toNat []) 0) (rA (S.getD (a - 1).toNat []) 2) n = true ∧ S.length ≤ 16 := by
  unfold relCk at h
  split at h
  · cases h
  · split at h
    · cases h
    · split at h
      · cases h
      · rename_i h3
        split at h
        · cases h
        · split at h
          · rename_i h5
            exact ⟨by omega, by omega, by simpa using h3, by omega, h5, by omega⟩
          · cases h
theorem secAll_len {S : List (List D)} (h : secAll S = true) {e : List D} (he : e ∈ S) : (rA e 2).length ≤ 4096 := by
  have h := List.all_eq_true.1 h e he
  simp only [secOk, Bool.and_eq_true, decide_eq_true_eq] at h
  have := h.2
  split at this <;> simp only [Bool.and_eq_true, decide_eq_true_eq] at this <;> omega
theorem getD_mem {S : List (List D)} {i : Nat} (h : i < S.length) : S.getD i [] ∈ S := by
  rw [List.getD_eq_getElem?_getD, List.getElem?_eq_getElem h]; exact List.getElem_mem h
theorem relCk_wok {a b k c d : Int} {S : List (List D)} {n : Int} (h : relCk a b k c d S n = 0) : relWok b k c d = true := by
  obtain ⟨h1, h2, h3, h4, h5, h6⟩ := relCk_in h
  obtain ⟨m1, m2, m3, m4, m5, m6, m7, m8⟩ := may_in h5
  have hl := secAll_len h3 (getD_mem (S := S) (i := (a - 1).toNat) (by omega))
  have hf := fieldN_in k
  have hb : b ≤ 4096 := by
    by_cases hk : k = 43
    · have m7 := m7 hk
      have m3 := m3 hk
      split at m3 <;> rw [wrap64 (by omega) (by omega)] at m3 <;> omega
    · have m4 := m4 hk
      rw [wrap64 (by omega) (by omega)] at m4; omega
  simp only [relWok, Bool.and_eq_true, decide_eq_true_eq, beq_iff_eq]
  exact ⟨⟨⟨⟨⟨⟨m1, m2⟩, hb⟩, by omega⟩, by omega⟩, m5⟩, m6⟩
theorem runs_rl2 (S Y L G : List (List D)) (j : Nat) (r : List D) (T : List (List D)) (hT : T.length ≤ 1024) {Q : R → Prop} (bad : T.all (fun q => !relBad q r) = false → Q (.val (.bool false), [])) (good : T.all (fun q => !relBad q r) = true → Runs eo3 (57, Try.f57, 0) rlsk1 (rlss1 L (L.length : Nat) (IntKind.wrap .i64 ((j : Int) + 1)) S Y L G) Q) :
    ∀ (t : List (List D)) (i : Nat), T.drop i = t → i ≤ T.length → t.all (fun q => !relBad q r) = T.all (fun q => !relBad q r) → Runs eo3 (57, Try.f57, 0) rlsk2 (rlss2 L (L.length : Nat) (j : Nat) T (T.length : Nat) (i : Nat) S Y L G (rI r 0) (rI r 1) (rI r 2) (rI r 3) (rI r 4)) Q := by
  intro t
  induction t with
  | nil =>
    intro i ht hi he
    refine Runs.of (fun q => rlsp2 q L _ _ T _ _ S Y L G _ _ _ _ _) ?_
    unfold rlst2
    have := drop_nil ht
    exact askF (decF (by omega)) (good he.symm)
  | cons e t ih =>
    intro i ht hi he
    obtain ⟨h1, h2, h3⟩ := drop_cons ht
    refine Runs.of (fun q => rlsp2 q L _ _ T _ _ S Y L G _ _ _ _ _) ?_
    unfold rlst2
    have hw : IntKind.wrap .i64 ((i : Int) + 1) = ((i + 1 : Nat) : Int) := by rw [wrap64 (by omega) (by omega)]; omega
    refine askT (decT (by omega)) (askT (andT (decT (by omega)) (decT (by omega))) ?_)
    simp only [Int.toNat_natCast, cI h2, cS h2, cB h2, cA h2, hw]
    rw [List.all_cons] at he
    have hb : relBad e r = (decide (rI e 0 > rI r 0) || ((rI e 0 == rI r 0) && (decide (rI e 1 > rI r 1) || !apartB (rI e 1) (rI e 2) (rI e 4) (rI r 1) (rI r 2) (rI r 4)))) := rfl
    have no : relBad e r = true → Q (.val (.bool false), []) := fun h => bad (by rw [← he, h]; rfl)
    have yes : relBad e r = false → Runs eo3 (57, Try.f57, 0) rlsk2 (rlss2 L (L.length : Nat) (j : Nat) T (T.length : Nat) ((i + 1 : Nat) : Int) S Y L G (rI r 0) (rI r 1) (rI r 2) (rI r 3) (rI r 4)) Q := fun h => ih (i + 1) h3 (by omega) (by rw [← he, h]; rfl)
    refine ask (fun h => no (by rw [hb, h]; rfl)) (fun ha => ask (fun h => ask (fun hc => no (by rw [hb, ha, h, hc]; rfl)) (fun hc => ask (fun hd => no (by rw [hb, ha, h, hc, hd]; rfl)) (fun hd => yes (by rw [hb, ha, h, hc, hd]; rfl)))) (fun h => yes (by rw [hb, ha, h]; rfl)))
theorem runs_rl1 (S Y L G : List (List D)) (hL : L.length ≤ 256) (hk : relsOk L = true) : ∀ (t : List (List D)) (i : Nat), L.drop i = t → i ≤ L.length → relsGo S Y.length L t i = relsGo S Y.length L L 0 → Runs eo3 (57, Try.f57, 0) rlsk1 (rlss1 L (L.length : Nat) (i : Nat) S Y L G) (Is (.val (.bool (relsB S Y L)))) := by
  intro t
  induction t with
  | nil =>
    intro i ht hi he
    refine Runs.of (fun q => rlsp1 q L _ _ S Y L G) ?_
    unfold rlst1
    have := drop_nil ht
    refine askF (decF (by omega)) (is_refl ?_)
    rw [relsB, ← he, decT hL]; rfl
  | cons e t ih =>
    intro i ht hi he
    obtain ⟨h1, h2, h3⟩ := drop_cons ht
    have hm := mem_of_drop ht
    obtain ⟨k0, k1⟩ := relsOk_get hk hm
    refine Runs.of (fun q => rlsp1 q L _ _ S Y L G) ?_
    unfold rlst1
    have hw : IntKind.wrap .i64 ((i : Int) + 1) = ((i + 1 : Nat) : Int) := by rw [wrap64 (by omega) (by omega)]; omega
    refine askT (decT (by omega)) (askT (andT (decT (by omega)) (decT (by omega))) ?_)
    simp only [Int.toNat_natCast, cI h2, cS h2, cB h2, cA h2, hw]
    have c0 : relsGo S Y.length L (e :: t) i = ((relCk (rI e 0) (rI e 1) (rI e 2) (rI e 3) (rI e 4) S Y.length == 0) && (!(rI e 2 == 43) || fillB (cut (rA (S.getD (rI e 0 - 1).toNat []) 2) (rI e 1) (rI e 1 + rI e 4))) && (L.take i).all (fun q => !relBad q e) && relsGo S Y.length L t (i + 1)) := rfl
    have loop : ((L.take i).all (fun q => !relBad q e) && relsGo S Y.length L t (i + 1)) = relsGo S Y.length L L 0 → Tr.prop eo3 (57, Try.f57, 0) (Is (.val (.bool (relsB S Y L)))) (Tr.ask (okBounds (0 : Int) (i : Nat) (L.length : Nat)) (.go 0 rlsk2 (rlss2 L (L.length : Nat) (i : Nat) (cut L (0 : Int) (i : Nat)) ((cut L (0 : Int) (i : Nat)).length : Nat) 0 S Y L G (rI e 0) (rI e 1) (rI e 2) (rI e 3) (rI e 4))) .fail) := fun he => by
      refine askT (okB (by omega) (by omega) (by omega)) ?_
      rw [cut0]
      refine runs_rl2 S Y L G i e (L.take i) (by rw [List.length_take]; omega) (fun hb => is_refl ?_) (fun hb => ?_) (L.take i) 0 rfl (by omega) rfl
      · rw [relsB, ← he, hb, Bool.false_and, Bool.and_false]
      · rw [hw]
        rw [hb, Bool.true_and] at he
        exact ih (i + 1) h3 (by omega) he
    rw [c0] at he
    refine askT (show (decide (0 ≤ rI e 2) && decide (rI e 2 ≤ 255)) = true from andT (decT k0) (decT k1)) (ask (fun h => is_refl ?_) (fun h => ?_))
    · have h' : (relCk (rI e 0) (rI e 1) (rI e 2) (rI e 3) (rI e 4) S Y.length == 0) = false := by simpa [bne] using h
      rw [relsB, ← he, h', Bool.false_and, Bool.false_and, Bool.false_and, Bool.and_false]
    · have h' : (relCk (rI e 0) (rI e 1) (rI e 2) (rI e 3) (rI e 4) S Y.length == 0) = true := by simpa [bne] using h
      rw [h', Bool.true_and] at he
      refine ask (fun hk43 => ?_) (fun hk43 => ?_)
      · obtain ⟨n1, n2, n3, n4, n5, n6⟩ := relCk_in (beq_iff_eq.1 h')
        obtain ⟨m1, m2, m3, m4, m5, m6, m7, m8⟩ := may_in n5
        have k43 : rI e 2 = 43 := beq_iff_eq.1 hk43
        have m7 := m7 k43
        have m3 := m3 k43
        have hin : (rI e 0 - 1).toNat < S.length := by omega
        have hl := secAll_len n3 (getD_mem hin)
        have hf := fieldN_in (rI e 2)
        have ew : IntKind.wrap .i64 (rI e 0 - 1) = rI e 0 - 1 := wrap64 (by omega) (by omega)
        have hb : rI e 1 + rI e 4 ≤ (rA (S.getD (rI e 0 - 1).toNat []) 2).length := by
          split at m3 <;> rw [wrap64 (by omega) (by omega)] at m3 <;> omega
        have ew2 : IntKind.wrap .i64 (rI e 1 + rI e 4) = rI e 1 + rI e 4 := wrap64 (by omega) (by omega)
        have ea : cellA S (rI e 0 - 1).toNat 2 = rA (S.getD (rI e 0 - 1).toNat []) 2 := rfl
        simp only [ew, ew2, ea]
        rw [hk43, Bool.not_true, Bool.false_or] at he
        refine askT (andT (decT (by omega)) (decT (by omega))) (askT (okB (by omega) (by omega) (by omega)) (askT (show decide ((cut (rA (S.getD (rI e 0 - 1).toNat []) 2) (rI e 1) (rI e 1 + rI e 4)).length ≤ 1048576) = true from decT ?_) (ask (fun hf => is_refl ?_) (fun hf => ?_))))
        · unfold cut; rw [List.length_take, List.length_drop]; omega
        · rw [relsB, ← he, notT hf, Bool.false_and, Bool.false_and, Bool.and_false]
        · exact loop (by rw [← he, notF hf, Bool.true_and])
      · exact loop (by rw [← he, hk43, Bool.not_false, Bool.true_or, Bool.true_and])
theorem con_rls : ∀ vs v, pRls vs = true → gRls vs = some v → Contract Try.prog 57 vs [] (v, []) := by
  intro vs v hp h
  unfold gRls at h
  split at h <;> cases h
  rename_i S Y L G
  refine el_con lc3_ok Try.func57 (by kernel_rfl) (by kernel_rfl) rfl (by kernel_rfl) (by kernel_rfl) (Runs.of (fun q => rlsp0 q S Y L G) ?_)
  unfold rlst0
  refine ask (fun h => is_refl ?_) (fun h => ?_)
  · rw [relsB, decF (p := L.length ≤ 256) (by have := of_decide_eq_true h; omega), Bool.false_and]
  · exact runs_rl1 S Y L G (by have := of_decide_eq_false h; omega) hp L 0 rfl (by omega) rfl
theorem lc4_ok : ExtAll Try.prog lc4 := .normP con_rls lc3_ok
theorem runs_chk (S Y L G : List (List D)) (hS : S.length ≤ 1048576) (hY : Y.length ≤ 1048576) (hk : relsOk L = true) (hG : G.length ≤ 1048576) (hg : lensOk 1 1048576 G = true) : ∀ (t : List (List D)) (i : Nat) (ok : Bool), S.drop i = t → i ≤ S.length → (ok && secAll t) = (decide (S.length ≤ 16) && secAll S) → Runs ep4 (22, Try.f22, 0) ckok1 (ckos1 ok S (S.length : Nat) (i : Nat) S Y L G) (Is (.val (.int .i64 (if chkB S Y L G = true then 0 else 8)))) := by
  intro t
  induction t with
  | nil =>
    intro i ok ht hi he
    refine Runs.of (fun q => ckop1 q ok S _ _ S Y L G) ?_
    unfold ckot1
    have := drop_nil ht
    have he : ok = (decide (S.length ≤ 16) && secAll S) := by rw [← he]; simp [secAll]
    have c0 : chkB S Y L G = (ok && symsB S Y && relsB S Y L && grpsB S G) := by rw [he]; rfl
    rw [c0]
    refine askF (decF (by omega)) (ask (fun h => is_refl ?_) (fun h1 => askT (show decide (Y.length ≤ 1048576) = true from decT hY) (ask (fun h => is_refl ?_) (fun h2 => askT hk (ask (fun h => is_refl ?_) (fun h3 => askT (show (decide (G.length ≤ 1048576) && lensOk 1 1048576 G) = true from andT (decT hG) hg) (ask (fun h => is_refl ?_) (fun h4 => is_refl ?_))))))))
    · rw [notT h]; rfl
    · rw [notF h1, notT h]; rfl
    · rw [notF h1, notF h2, notT h]; rfl
    · rw [notF h1, notF h2, notF h3, notT h]; rfl
    · rw [notF h1, notF h2, notF h3, notF h4]; rfl
  | cons e t ih =>
    intro i ok ht hi he
    obtain ⟨h1, h2, h3⟩ := drop_cons ht
    refine Runs.of (fun q => ckop1 q ok S _ _ S Y L G) ?_
    unfold ckot1
    have hw : IntKind.wrap .i64 ((i : Int) + 1) = ((i + 1 : Nat) : Int) := by rw [wrap64 (by omega) (by omega)]; omega
    refine askT (decT (by omega)) (askT (andT (decT (by omega)) (decT (by omega))) ?_)
    simp only [Int.toNat_natCast, cI h2, cS h2, cB h2, cA h2, hw]
    have hc : secAll (e :: t) = (secOk (rS e 0) (rI e 1) (rA e 2).length (rI e 3) && secAll t) := rfl
    rw [hc] at he
    refine ask (fun h => ?_) (fun h => ?_)
    · refine ih (i + 1) _ h3 (by omega) ?_
      rw [← he, h, Bool.true_and]
      congr 1
      rw [secE]
      cases secOk (rS e 0) (rI e 1) (rA e 2).length (rI e 3) <;> rfl
    · refine ih (i + 1) _ h3 (by omega) ?_
      rw [← he, h]; rfl
theorem con_chkO : ∀ vs v, pChkO vs = true → gChkO vs = some v → Contract Try.prog 22 vs [] (v, []) := by
  intro vs v hp h
  unfold gChkO at h
  split at h <;> cases h
  rename_i S Y L G
  simp only [pChkO, Bool.and_eq_true, decide_eq_true_eq] at hp
  obtain ⟨⟨⟨⟨p1, p2⟩, p3⟩, p4⟩, p5⟩ := hp
  refine el_con lc4_ok Try.func22 (by kernel_rfl) (by kernel_rfl) rfl (by kernel_rfl) (by kernel_rfl) (Runs.of (fun q => ckop0 q S Y L G) ?_)
  unfold ckot0
  refine runs_chk S Y L G p1 p2 p3 p4 p5 S 0 _ rfl (by omega) ?_
  congr 1
  rw [decide_eq_decide]; omega
theorem lc5_ok : ExtAll Try.prog lc5 := .normP con_chkO lc4_ok
theorem secsF_len (m : List (List D)) : ∀ (t : List (List D)) (i : Nat) (f : Fl), lensOk 2 4096 t = true → (secsF m t i f).b.length ≤ f.b.length + 8192 * t.length ∧ (secsF m t i f).heads.length = f.heads.length + t.length ∧ (secsF m t i f).names.length = f.names.length + t.length
  | [], i, f, _ => by simp [secsF]
  | e :: t, i, f, h => by
    have h' : (decide ((rA e 2).length ≤ 4096) && lensOk 2 4096 t) = true := h
    simp only [Bool.and_eq_true, decide_eq_true_eq] at h'
    have := secsF_len m t (i + 1) (partF f (rS e 0) (secHd m i e) (rA e 2)) h'.2
    have hl := partF_len f (rS e 0) (secHd m i e) (rA e 2)
    have e0 : secsF m (e :: t) i f = secsF m t (i + 1) (partF f (rS e 0) (secHd m i e) (rA e 2)) := rfl
    rw [e0, List.length_cons]
    omega
theorem grpsF_len (N : Int) : ∀ (G : List (List D)) (f : Fl), lensOk 1 16 G = true → (grpsF N G f).b.length ≤ f.b.length + 8192 * G.length ∧ (grpsF N G f).heads.length = f.heads.length + G.length ∧ (grpsF N G f).names.length = f.names.length + G.length
  | [], f, _ => by simp [grpsF]
  | e :: t, f, h => by
    have h' : (decide ((rA e 1).length ≤ 16) && lensOk 1 16 t) = true := h
    simp only [Bool.and_eq_true, decide_eq_true_eq] at h'
    have := grpsF_len N t (partF f (sGrp ++ rS e 0) ⟨0, 17, 0, 0, 0, 0, N, 0, 4, 4⟩ (numsB 4 [[.int 1]] ++ numsB 4 (rA e 1))) h'.2
    have hl := partF_len f (sGrp ++ rS e 0) ⟨0, 17, 0, 0, 0, 0, N, 0, 4, 4⟩ (numsB 4 [[.int 1]] ++ numsB 4 (rA e 1))
    have n1 := numsB_len 4 (by omega) [[.int 1]]
    have n2 := numsB_len 4 (by omega) (rA e 1)
    rw [List.length_append] at hl
    simp only [List.length_cons, List.length_nil] at n1
    have e0 : grpsF N (e :: t) f = grpsF N t (partF f (sGrp ++ rS e 0) ⟨0, 17, 0, 0, 0, 0, N, 0, 4, 4⟩ (numsB 4 [[.int 1]] ++ numsB 4 (rA e 1))) := rfl
    rw [e0, List.length_cons]
    omega
theorem relsF_len (N : Int) (S : List (List D)) : ∀ (W : List (List D)) (i : Nat) (f : Fl), (∀ e ∈ W, (rA e 0).length ≤ 8192) → (relsF N S W i f).b.length ≤ f.b.length + 12288 * W.length ∧ (relsF N S W i f).heads.length ≤ f.heads.length + W.length ∧ (relsF N S W i f).heads.length + f.names.length = (relsF N S W i f).names.length + f.heads.length
  | [], i, f, _ => by simp [relsF]; omega
  | e :: t, i, f, h => by
    have h1 := h e List.mem_cons_self
    have e0 : relsF N S (e :: t) i f = relsF N S t (i + 1) (if 0 < (rA e 0).length then partF f (sRel ++ rS (S.getD i []) 0) ⟨0, 4, 64, 0, 0, 0, N, ((i + 1 : Nat) : Int), 8, 24⟩ (rA e 0) else f) := rfl
    rw [e0, List.length_cons]
    split
    · have := relsF_len N S t (i + 1) (partF f (sRel ++ rS (S.getD i []) 0) ⟨0, 4, 64, 0, 0, 0, N, ((i + 1 : Nat) : Int), 8, 24⟩ (rA e 0)) fun e he => h e (List.mem_cons_of_mem _ he)
      have hl := partF_len f (sRel ++ rS (S.getD i []) 0) ⟨0, 4, 64, 0, 0, 0, N, ((i + 1 : Nat) : Int), 8, 24⟩ (rA e 0)
      omega
    · have := relsF_len N S t (i + 1) f fun e he => h e (List.mem_cons_of_mem _ he)
      omega
theorem symsF_len (P : List (List D)) : ∀ (t : List (List D)) (i : Nat), (symsF P t i).length ≤ 32 * t.length
  | [], i => by simp [symsF]
  | e :: t, i => by
    have := symsF_len P t (i + 1)
    have h2 := symRow_len e (cellI P i 0)
    rw [symsF, List.length_append, List.length_cons]; omega
theorem restF_len (S Y L G : List (List D)) (f : Fl) (h1 : bysOk S L = true) (h2 : lensOk 1 16 G = true) (h3 : Y.length ≤ 64) (h4 : (bldR (namesY Y)).t.length ≤ 65536) (h5 : G.length ≤ 16) :
    (restF S Y L G f).b.length ≤ f.b.length + 524288 ∧ (restF S Y L G f).heads.length ≤ f.heads.length + 34 ∧ (restF S Y L G f).heads.length + f.names.length = (restF S Y L G f).names.length + f.heads.length ∧ 2 + f.heads.length ≤ (restF S Y L G f).heads.length := by
  simp only [bysOk, Bool.and_eq_true, decide_eq_true_eq] at h1
  obtain ⟨⟨h1, h1b⟩, h1c⟩ := h1
  have g1 := grpsF_len (symFirst S L G) G f h2
  have g2 := relsF_len (symFirst S L G) S (byS S.length L) 0 (grpsF (symFirst S L G) G f) fun e he => Nat.le_trans (byS_lens S.length L e he) (by omega)
  rw [byS_length] at g2
  have g3 := symsF_len (bldR (namesY Y)).p Y 0
  have g4 := partF_len (relsF (symFirst S L G) S (byS S.length L) 0 (grpsF (symFirst S L G) G f)) sSym ⟨0, 2, 0, 0, 0, 0, ((symFirst S L G + 1 : Nat) : Int), ((locals Y + 1 : Nat) : Int), 8, 24⟩ (zeros 24 ++ symsF (bldR (namesY Y)).p Y 0)
  have g5 := partF_len (partF (relsF (symFirst S L G) S (byS S.length L) 0 (grpsF (symFirst S L G) G f)) sSym ⟨0, 2, 0, 0, 0, 0, ((symFirst S L G + 1 : Nat) : Int), ((locals Y + 1 : Nat) : Int), 8, 24⟩ (zeros 24 ++ symsF (bldR (namesY Y)).p Y 0)) sStr ⟨0, 3, 0, 0, 0, 0, 0, 0, 1, 0⟩ (bldR (namesY Y)).t
  rw [List.length_append, show (zeros 24).length = 24 from by simp [zeros]] at g4
  have g6 : (grpsF (symFirst S L G) G f).heads.length ≤ (relsF (symFirst S L G) S (byS S.length L) 0 (grpsF (symFirst S L G) G f)).heads.length := by
    have : ∀ (N : Int) (W : List (List D)) (i : Nat) (f : Fl), f.heads.length ≤ (relsF N S W i f).heads.length := by
      intro N W
      induction W with
      | nil => intro i f; exact Nat.le_refl _
      | cons e t ih =>
        intro i f
        refine Nat.le_trans ?_ (ih (i + 1) _)
        split
        · rw [(partF_len _ _ _ _).2.1]; omega
        · exact Nat.le_refl _
    exact this _ _ _ _
  have e0 : restF S Y L G f = partF (partF (relsF (symFirst S L G) S (byS S.length L) 0 (grpsF (symFirst S L G) G f)) sSym ⟨0, 2, 0, 0, 0, 0, ((symFirst S L G + 1 : Nat) : Int), ((locals Y + 1 : Nat) : Int), 8, 24⟩ (zeros 24 ++ symsF (bldR (namesY Y)).p Y 0)) sStr ⟨0, 3, 0, 0, 0, 0, 0, 0, 1, 0⟩ (bldR (namesY Y)).t := rfl
  rw [e0]
  omega
theorem hdB_len (h : Hd) : (hdB h).length ≤ 64 := by
  unfold hdB
  split
  · simp [Hd.b, leB]
  · simp
theorem runs_wr1 (P A : List (List D)) (f : Fl) (place : Int) (hP : f.heads.length ≤ P.length) (hh : f.heads.length ≤ 1024) {Q : R → Prop} (hA : 0 < A.length) (full : A.length > 65536 → Q (.tup [.val nilSlice, .val (.int .i64 9)], [])) (good : ¬ A.length > 65536 → Q (.tup [.uni u8s (copyB (firstB place (IntKind.wrap .i64 ((f.heads.length : Int) + 1))) A), .val (.int .i64 0)], [])) :
    ∀ (t : List (List D)) (i : Nat) (b : List (List D)), f.heads.drop i = t → i ≤ f.heads.length → b ++ headsF P t i = A → b.length ≤ 8388608 + 64 * i → Runs ep5 (24, Try.f24, 0) wrtk1 (wrts1 P b place f.heads (f.heads.length : Nat) (i : Nat) f.b f.heads f.names) Q := by
  intro t
  induction t with
  | nil =>
    intro i b ht hi he hb
    refine Runs.of (fun q => wrtp1 q P b place f.heads _ _ f.b f.heads f.names) ?_
    unfold wrtt1
    have := drop_nil ht
    have he : b = A := by rw [← he, headsF, List.append_nil]
    subst he
    refine askF (decF (by omega)) (askT (decT hA) (ask (fun h => full ?_) (fun h => good ?_)))
    · have := of_decide_eq_true h; omega
    · have := of_decide_eq_false h; omega
  | cons e t ih =>
    intro i b ht hi he hb
    obtain ⟨h1, h2, h3⟩ := drop_cons ht
    refine Runs.of (fun q => wrtp1 q P b place f.heads _ _ f.b f.heads f.names) ?_
    unfold wrtt1
    have hw : IntKind.wrap .i64 ((i : Int) + 1) = ((i + 1 : Nat) : Int) := by rw [wrap64 (by omega) (by omega)]; omega
    refine askT (decT (by omega)) (askT (andT (decT (by omega)) (decT (by omega))) (askT (andT (decT (by omega)) (decT (by omega))) ?_))
    simp only [Int.toNat_natCast, cI h2, cS h2, cB h2, cA h2, hw]
    have hl := hdB_len (hdOf e (cellI P i 0))
    refine askT (show (decide ((b.length + (hdB (hdOf e (cellI P i 0))).length) * 1 ≤ 70368744177664) && decide (b.length + (hdB (hdOf e (cellI P i 0))).length ≤ 70368744177664)) = true from andT (decT (by omega)) (decT (by omega))) ?_
    refine ih (i + 1) (b ++ hdB (hdOf e (cellI P i 0))) h3 (by omega) ?_ (by rw [List.length_append]; omega)
    rw [← he, List.append_assoc]; rfl
theorem con_wrt : ∀ vs v, pWrt vs = true → gWrt vs = some v → Contract Try.prog 24 vs [] (v, []) := by
  intro vs v hp h
  unfold gWrt at h
  split at h <;> cases h
  rename_i S Y L G
  simp only [pWrt, Bool.and_eq_true] at hp
  obtain ⟨hc, hp⟩ := hp
  refine el_con lc5_ok Try.func24 (by kernel_rfl) (by kernel_rfl) rfl (by kernel_rfl) (by kernel_rfl) (Runs.of (fun q => wrtp0 q S Y L G) ?_)
  unfold wrtt0
  refine askT hc ?_
  by_cases hk : chkB S Y L G = true
  · rw [if_pos hk]
    refine askF rfl ?_
    rw [hk, Bool.not_true, Bool.false_or] at hp
    simp only [wrOk, Bool.and_eq_true, decide_eq_true_eq] at hp
    obtain ⟨⟨⟨p1, ⟨⟨⟨⟨⟨⟨⟨⟨p2, p3⟩, p4⟩, p5⟩, p6⟩, p7⟩, p8⟩, p9⟩, p10⟩⟩, p11⟩, p12⟩ := hp
    have hc' := hc
    simp only [pChkO, Bool.and_eq_true, decide_eq_true_eq] at hc'
    obtain ⟨⟨⟨⟨c1, c2⟩, c3⟩, c4⟩, c5⟩ := hc'
    have q2 := p2
    simp only [bysOk, Bool.and_eq_true, decide_eq_true_eq] at q2
    have l1 := secsF_len (grpMap G []) S 0 ⟨zeros 64, [], []⟩ p1
    have l2 := restF_len S Y L G (secsF (grpMap G []) S 0 ⟨zeros 64, [], []⟩) p2 p4 p7 p10 p3
    rw [show (zeros 64).length = 64 from by simp [zeros]] at l1
    simp only [List.length_nil] at l1
    have l3 := partF_len (wrF2 S Y L G) sShs ⟨0, 3, 0, 0, 0, 0, 0, 0, 1, 0⟩ (wrTb S Y L G).t
    have e2 : restF S Y L G (secsF (grpMap G []) S 0 ⟨zeros 64, [], []⟩) = wrF2 S Y L G := rfl
    rw [e2] at l2
    have e3 : partF (wrF2 S Y L G) sShs ⟨0, 3, 0, 0, 0, 0, 0, 0, 1, 0⟩ (wrTb S Y L G).t = wrF3 S Y L G := rfl
    rw [e3] at l3
    have l4 := padB_len (wrF3 S Y L G).b 8
    have s1 : (decide ((zeros 64).length ≤ 64) && decide (([] : List (List D)).length ≤ 0) && decide (([] : List (List D)).length ≤ 0) && decide (S.length ≤ 16) && lensOk 2 4096 S && decide (G.length ≤ 1048576) && lensOk 1 1048576 G) = true := by
      rw [p1, c5, decT c4, decT (p := S.length ≤ 16) q2.1.1]; rfl
    have s2 : (decide ((secsF (grpMap G []) S 0 ⟨zeros 64, [], []⟩).b.length ≤ 131136) && decide ((secsF (grpMap G []) S 0 ⟨zeros 64, [], []⟩).heads.length ≤ 16) && decide ((secsF (grpMap G []) S 0 ⟨zeros 64, [], []⟩).names.length ≤ 16) && bysOk S L && decide (G.length ≤ 16) && lensOk 1 16 G && strsOk 0 4096 G && strsOk 0 4096 S && decide (Y.length ≤ 64) && posOk 1 Y && decide ((bldR (namesY Y)).p.length = Y.length) && decide ((bldR (namesY Y)).t.length ≤ 65536)) = true := by
      rw [decT (p := (secsF (grpMap G []) S 0 ⟨zeros 64, [], []⟩).b.length ≤ 131136) (by omega), decT (p := (secsF (grpMap G []) S 0 ⟨zeros 64, [], []⟩).heads.length ≤ 16) (by omega), decT (p := (secsF (grpMap G []) S 0 ⟨zeros 64, [], []⟩).names.length ≤ 16) (by omega), p2, decT p3, p4, p5, p6, decT p7, p8, decT p9, decT p10]; rfl
    have s3 : (decide (0 < (wrF2 S Y L G).names.length) && decide ((wrF2 S Y L G).names.length ≤ 1048576)) = true := andT (decT (by omega)) (decT (by omega))
    have s4 : (flOk (wrF2 S Y L G) && decide ((wrTb S Y L G).t.length ≤ 1048576)) = true := andT (andT (andT (decT (by omega)) (decT (by omega))) (decT (by omega))) (decT (by omega))
    have s5 : decide ((wrF3 S Y L G).b.length ≤ 16777216) = true := decT (by omega)
    have s6 : (padB (wrF3 S Y L G).b 8).length ≤ 8388608 - 64 := by omega
    refine askT s1 (askT s2 (askT s3 (askT (andT (decT ?_) (decT ?_)) (askT s4 (askT s5 (askT (andT (decT ?_) (decT ?_)) ?_))))))
    · show ((wrF2 S Y L G).names.length + 1) * 16 ≤ _; omega
    · show (wrF2 S Y L G).names.length + 1 ≤ _; omega
    · show ((padB (wrF3 S Y L G).b 8).length + 64) * 1 ≤ _; omega
    · show (padB (wrF3 S Y L G).b 8).length + 64 ≤ _; omega
    have hA : (wrAll S Y L G) = (padB (wrF3 S Y L G).b 8 ++ zeros 64) ++ headsF (wrTb S Y L G).p (wrF3 S Y L G).heads 0 := rfl
    have hz : (zeros 64).length = 64 := by simp [zeros]
    refine runs_wr1 (wrTb S Y L G).p (wrAll S Y L G) (wrF3 S Y L G) (padB (wrF3 S Y L G).b 8).length (by omega) (by omega) ?_ (fun hf => ?_) (fun hf => ?_) (wrF3 S Y L G).heads 0 (padB (wrF3 S Y L G).b 8 ++ zeros 64) rfl (by omega) rfl ?_
    · rw [hA, List.length_append, List.length_append, hz]; omega
    · have : wrE S Y L G = 9 := by rw [wrE, if_pos hk, if_pos hf]
      rw [wrV, this]
      exact is_tup2 (rx_nilU rfl) (rx_of rfl)
    · have : wrE S Y L G = 0 := by rw [wrE, if_pos hk, if_neg hf]
      rw [wrV, this]
      exact is_refl rfl
    · rw [List.length_append, hz]; omega
  · rw [if_neg hk]
    have : wrE S Y L G = 8 := by rw [wrE, if_neg hk]
    rw [wrV, this]
    exact askT rfl (is_tup2 (rx_nilU rfl) (rx_of rfl))
theorem lc6_ok : ExtAll Try.prog lc6 := .normP con_wrt lc5_ok
end Go.Proofs.Ytkcopbnaleiocaa.Ev
