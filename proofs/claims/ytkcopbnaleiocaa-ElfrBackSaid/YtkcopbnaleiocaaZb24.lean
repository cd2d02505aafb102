/- A part of the proof: what the statement needs, and nothing else. -/
import Derived.Test.YtkcopbnaleiocaaZb23
namespace Go.Proofs.Ytkcopbnaleiocaa.Ev
open Go
set_option linter.unusedVariables false
noncomputable def ralk0 : List T := [.code (sub (bodyOf Try.f92) [])]
def rals0 (o0_0 o0_1 o0_2 o0_3 o0_4 o0_5 : List (List D)) (o0_6 : Int) : St := ⟨[(0, .ptr (.out 0) 0)], [(.out 0, [.arr u8s o0_0, .own hdT o0_1, .own secC o0_2, .own symC o0_3, .own relC o0_4, .own grpC o0_5, .val (.int .i64 o0_6)])]⟩
noncomputable def ralk1 : List T := [.code (sub (bodyOf Try.f92) [1, 1, 1, 0, 0]), .lp (sub (bodyOf Try.f92) [1, 1, 1, 0, 0]), .blk 0]
def rals1 (t2 t3 t4 : Int) (o0_0 o0_1 o0_2 o0_3 o0_4 o0_5 : List (List D)) (o0_6 : Int) : St := ⟨[(0, .ptr (.out 0) 0), (2, .val (.int .i64 t2)), (3, .val (.int .i64 t3)), (4, .val (.int .i64 t4))], [(.out 0, [.arr u8s o0_0, .own hdT o0_1, .own secC o0_2, .own symC o0_3, .own relC o0_4, .own grpC o0_5, .val (.int .i64 o0_6)])]⟩
noncomputable def ralt0 (o0_0 o0_1 o0_2 o0_3 o0_4 o0_5 : List (List D)) (o0_6 : Int) : Tr := (.ask (pNum [normV CK.no (handed [Key.out (0 : Nat)] (V.ptr (Key.out (0 : Nat)) (0 : Nat))), normV (.sl u8s) (handed [Key.out (0 : Nat)] (V.arr u8s o0_0)), handed [Key.out (0 : Nat)] (V.val (.int .i64 (40 : Int))), handed [Key.out (0 : Nat)] (V.val (.int .i64 (8 : Int)))] [V.arr u8s o0_0, V.own hdT o0_1, V.own secC o0_2, V.own symC o0_3, V.own relC o0_4, V.own grpC o0_5, V.val (.int .i64 o0_6)])
  (.ask (pNum [normV CK.no (handed [Key.out (0 : Nat)] (V.ptr (Key.out (0 : Nat)) (0 : Nat))), normV (.sl u8s) (handed [Key.out (0 : Nat)] (V.arr u8s o0_0)), handed [Key.out (0 : Nat)] (V.val (.int .i64 (60 : Int))), handed [Key.out (0 : Nat)] (V.val (.int .i64 (2 : Int)))] [V.arr u8s o0_0, V.own hdT o0_1, V.own secC o0_2, V.own symC o0_3, V.own relC o0_4, V.own grpC o0_5, V.val (.int .i64 (numE o0_0 (40 : Int) (8 : Int) o0_6))])
  (.ask (decide (getV o0_0 (60 : Int) (2 : Int) < (4 : Int)))
  (.go 0 ralk1 (rals1 (getV o0_0 (40 : Int) (8 : Int)) (getV o0_0 (60 : Int) (2 : Int)) ((0 : Int)) (o0_0) (o0_1) (o0_2) (o0_3) (o0_4) (o0_5) ((8 : Int))))
  (.ask (decide (getV o0_0 (60 : Int) (2 : Int) > (100 : Int)))
  (.go 0 ralk1 (rals1 (getV o0_0 (40 : Int) (8 : Int)) (getV o0_0 (60 : Int) (2 : Int)) ((0 : Int)) (o0_0) (o0_1) (o0_2) (o0_3) (o0_4) (o0_5) ((8 : Int))))
  (.go 5 ralk1 (rals1 (getV o0_0 (40 : Int) (8 : Int)) (getV o0_0 (60 : Int) (2 : Int)) ((0 : Int)) (o0_0) (o0_1) (o0_2) (o0_3) (o0_4) (o0_5) (numE o0_0 (60 : Int) (2 : Int) (numE o0_0 (40 : Int) (8 : Int) o0_6))))))
  .fail)
  .fail)
set_option maxRecDepth 100000 in
theorem ralp0 (n : Nat) (o0_0 o0_1 o0_2 o0_3 o0_4 o0_5 : List (List D)) (o0_6 : Int) : exec er2 (n + 40) (92, Try.f92, 1) ralk0 (rals0 o0_0 o0_1 o0_2 o0_3 o0_4 o0_5 o0_6) = Tr.val er2 (92, Try.f92, 1) n (ralt0 o0_0 o0_1 o0_2 o0_3 o0_4 o0_5 o0_6) := by kernel_rfl
noncomputable def ralt1 (t2 t3 t4 : Int) (o0_0 o0_1 o0_2 o0_3 o0_4 o0_5 : List (List D)) (o0_6 : Int) : Tr := (.ask (decide (t4 < t3))
  (.ask (o0_6 == (0 : Int))
  (.ask (pCut [handed [Key.out (0 : Nat)] (V.ptr (Key.out (0 : Nat)) (0 : Nat)), handed [Key.out (0 : Nat)] (V.val (.int .i64 (IntKind.wrap .i64 (t2 + IntKind.wrap .i64 (t4 * (64 : Int)))))), handed [Key.out (0 : Nat)] (V.val (.int .i64 (64 : Int)))] [V.arr u8s o0_0, V.own hdT o0_1, V.own secC o0_2, V.own symC o0_3, V.own relC o0_4, V.own grpC o0_5, V.val (.int .i64 o0_6)])
  (.ask (pHdR [normV (.sl u8s) (handed [] (.arr u8s (cutV o0_0 (IntKind.wrap .i64 (t2 + IntKind.wrap .i64 (t4 * (64 : Int)))) (64 : Int) o0_6)))])
  (.ask (hdRE (cutV o0_0 (IntKind.wrap .i64 (t2 + IntKind.wrap .i64 (t4 * (64 : Int)))) (64 : Int) o0_6) != (0 : Int))
  (.ask (decide ((List.length o0_1 + List.length [[D.int (Hd.name (hdRV (cutV o0_0 (IntKind.wrap .i64 (t2 + IntKind.wrap .i64 (t4 * (64 : Int)))) (64 : Int) o0_6))), D.int (Hd.type (hdRV (cutV o0_0 (IntKind.wrap .i64 (t2 + IntKind.wrap .i64 (t4 * (64 : Int)))) (64 : Int) o0_6))), D.int (Hd.flags (hdRV (cutV o0_0 (IntKind.wrap .i64 (t2 + IntKind.wrap .i64 (t4 * (64 : Int)))) (64 : Int) o0_6))), D.int (Hd.addr (hdRV (cutV o0_0 (IntKind.wrap .i64 (t2 + IntKind.wrap .i64 (t4 * (64 : Int)))) (64 : Int) o0_6))), D.int (Hd.offset (hdRV (cutV o0_0 (IntKind.wrap .i64 (t2 + IntKind.wrap .i64 (t4 * (64 : Int)))) (64 : Int) o0_6))), D.int (Hd.size (hdRV (cutV o0_0 (IntKind.wrap .i64 (t2 + IntKind.wrap .i64 (t4 * (64 : Int)))) (64 : Int) o0_6))), D.int (Hd.link (hdRV (cutV o0_0 (IntKind.wrap .i64 (t2 + IntKind.wrap .i64 (t4 * (64 : Int)))) (64 : Int) o0_6))), D.int (Hd.info (hdRV (cutV o0_0 (IntKind.wrap .i64 (t2 + IntKind.wrap .i64 (t4 * (64 : Int)))) (64 : Int) o0_6))), D.int (Hd.align (hdRV (cutV o0_0 (IntKind.wrap .i64 (t2 + IntKind.wrap .i64 (t4 * (64 : Int)))) (64 : Int) o0_6))), D.int (Hd.entry (hdRV (cutV o0_0 (IntKind.wrap .i64 (t2 + IntKind.wrap .i64 (t4 * (64 : Int)))) (64 : Int) o0_6)))]]) * (80 : Nat) ≤ (70368744177664 : Nat)) && decide (List.length o0_1 + List.length [[D.int (Hd.name (hdRV (cutV o0_0 (IntKind.wrap .i64 (t2 + IntKind.wrap .i64 (t4 * (64 : Int)))) (64 : Int) o0_6))), D.int (Hd.type (hdRV (cutV o0_0 (IntKind.wrap .i64 (t2 + IntKind.wrap .i64 (t4 * (64 : Int)))) (64 : Int) o0_6))), D.int (Hd.flags (hdRV (cutV o0_0 (IntKind.wrap .i64 (t2 + IntKind.wrap .i64 (t4 * (64 : Int)))) (64 : Int) o0_6))), D.int (Hd.addr (hdRV (cutV o0_0 (IntKind.wrap .i64 (t2 + IntKind.wrap .i64 (t4 * (64 : Int)))) (64 : Int) o0_6))), D.int (Hd.offset (hdRV (cutV o0_0 (IntKind.wrap .i64 (t2 + IntKind.wrap .i64 (t4 * (64 : Int)))) (64 : Int) o0_6))), D.int (Hd.size (hdRV (cutV o0_0 (IntKind.wrap .i64 (t2 + IntKind.wrap .i64 (t4 * (64 : Int)))) (64 : Int) o0_6))), D.int (Hd.link (hdRV (cutV o0_0 (IntKind.wrap .i64 (t2 + IntKind.wrap .i64 (t4 * (64 : Int)))) (64 : Int) o0_6))), D.int (Hd.info (hdRV (cutV o0_0 (IntKind.wrap .i64 (t2 + IntKind.wrap .i64 (t4 * (64 : Int)))) (64 : Int) o0_6))), D.int (Hd.align (hdRV (cutV o0_0 (IntKind.wrap .i64 (t2 + IntKind.wrap .i64 (t4 * (64 : Int)))) (64 : Int) o0_6))), D.int (Hd.entry (hdRV (cutV o0_0 (IntKind.wrap .i64 (t2 + IntKind.wrap .i64 (t4 * (64 : Int)))) (64 : Int) o0_6)))]] ≤ (70368744177664 : Nat)))
  (.go 0 ralk1 (rals1 (t2) (t3) (IntKind.wrap .i64 (t4 + (1 : Int))) (o0_0) (o0_1 ++ [[D.int (Hd.name (hdRV (cutV o0_0 (IntKind.wrap .i64 (t2 + IntKind.wrap .i64 (t4 * (64 : Int)))) (64 : Int) o0_6))), D.int (Hd.type (hdRV (cutV o0_0 (IntKind.wrap .i64 (t2 + IntKind.wrap .i64 (t4 * (64 : Int)))) (64 : Int) o0_6))), D.int (Hd.flags (hdRV (cutV o0_0 (IntKind.wrap .i64 (t2 + IntKind.wrap .i64 (t4 * (64 : Int)))) (64 : Int) o0_6))), D.int (Hd.addr (hdRV (cutV o0_0 (IntKind.wrap .i64 (t2 + IntKind.wrap .i64 (t4 * (64 : Int)))) (64 : Int) o0_6))), D.int (Hd.offset (hdRV (cutV o0_0 (IntKind.wrap .i64 (t2 + IntKind.wrap .i64 (t4 * (64 : Int)))) (64 : Int) o0_6))), D.int (Hd.size (hdRV (cutV o0_0 (IntKind.wrap .i64 (t2 + IntKind.wrap .i64 (t4 * (64 : Int)))) (64 : Int) o0_6))), D.int (Hd.link (hdRV (cutV o0_0 (IntKind.wrap .i64 (t2 + IntKind.wrap .i64 (t4 * (64 : Int)))) (64 : Int) o0_6))), D.int (Hd.info (hdRV (cutV o0_0 (IntKind.wrap .i64 (t2 + IntKind.wrap .i64 (t4 * (64 : Int)))) (64 : Int) o0_6))), D.int (Hd.align (hdRV (cutV o0_0 (IntKind.wrap .i64 (t2 + IntKind.wrap .i64 (t4 * (64 : Int)))) (64 : Int) o0_6))), D.int (Hd.entry (hdRV (cutV o0_0 (IntKind.wrap .i64 (t2 + IntKind.wrap .i64 (t4 * (64 : Int)))) (64 : Int) o0_6)))]]) (o0_2) (o0_3) (o0_4) (o0_5) ((8 : Int))))
  .fail)
  (.ask (decide ((List.length o0_1 + List.length [[D.int (Hd.name (hdRV (cutV o0_0 (IntKind.wrap .i64 (t2 + IntKind.wrap .i64 (t4 * (64 : Int)))) (64 : Int) o0_6))), D.int (Hd.type (hdRV (cutV o0_0 (IntKind.wrap .i64 (t2 + IntKind.wrap .i64 (t4 * (64 : Int)))) (64 : Int) o0_6))), D.int (Hd.flags (hdRV (cutV o0_0 (IntKind.wrap .i64 (t2 + IntKind.wrap .i64 (t4 * (64 : Int)))) (64 : Int) o0_6))), D.int (Hd.addr (hdRV (cutV o0_0 (IntKind.wrap .i64 (t2 + IntKind.wrap .i64 (t4 * (64 : Int)))) (64 : Int) o0_6))), D.int (Hd.offset (hdRV (cutV o0_0 (IntKind.wrap .i64 (t2 + IntKind.wrap .i64 (t4 * (64 : Int)))) (64 : Int) o0_6))), D.int (Hd.size (hdRV (cutV o0_0 (IntKind.wrap .i64 (t2 + IntKind.wrap .i64 (t4 * (64 : Int)))) (64 : Int) o0_6))), D.int (Hd.link (hdRV (cutV o0_0 (IntKind.wrap .i64 (t2 + IntKind.wrap .i64 (t4 * (64 : Int)))) (64 : Int) o0_6))), D.int (Hd.info (hdRV (cutV o0_0 (IntKind.wrap .i64 (t2 + IntKind.wrap .i64 (t4 * (64 : Int)))) (64 : Int) o0_6))), D.int (Hd.align (hdRV (cutV o0_0 (IntKind.wrap .i64 (t2 + IntKind.wrap .i64 (t4 * (64 : Int)))) (64 : Int) o0_6))), D.int (Hd.entry (hdRV (cutV o0_0 (IntKind.wrap .i64 (t2 + IntKind.wrap .i64 (t4 * (64 : Int)))) (64 : Int) o0_6)))]]) * (80 : Nat) ≤ (70368744177664 : Nat)) && decide (List.length o0_1 + List.length [[D.int (Hd.name (hdRV (cutV o0_0 (IntKind.wrap .i64 (t2 + IntKind.wrap .i64 (t4 * (64 : Int)))) (64 : Int) o0_6))), D.int (Hd.type (hdRV (cutV o0_0 (IntKind.wrap .i64 (t2 + IntKind.wrap .i64 (t4 * (64 : Int)))) (64 : Int) o0_6))), D.int (Hd.flags (hdRV (cutV o0_0 (IntKind.wrap .i64 (t2 + IntKind.wrap .i64 (t4 * (64 : Int)))) (64 : Int) o0_6))), D.int (Hd.addr (hdRV (cutV o0_0 (IntKind.wrap .i64 (t2 + IntKind.wrap .i64 (t4 * (64 : Int)))) (64 : Int) o0_6))), D.int (Hd.offset (hdRV (cutV o0_0 (IntKind.wrap .i64 (t2 + IntKind.wrap .i64 (t4 * (64 : Int)))) (64 : Int) o0_6))), D.int (Hd.size (hdRV (cutV o0_0 (IntKind.wrap .i64 (t2 + IntKind.wrap .i64 (t4 * (64 : Int)))) (64 : Int) o0_6))), D.int (Hd.link (hdRV (cutV o0_0 (IntKind.wrap .i64 (t2 + IntKind.wrap .i64 (t4 * (64 : Int)))) (64 : Int) o0_6))), D.int (Hd.info (hdRV (cutV o0_0 (IntKind.wrap .i64 (t2 + IntKind.wrap .i64 (t4 * (64 : Int)))) (64 : Int) o0_6))), D.int (Hd.align (hdRV (cutV o0_0 (IntKind.wrap .i64 (t2 + IntKind.wrap .i64 (t4 * (64 : Int)))) (64 : Int) o0_6))), D.int (Hd.entry (hdRV (cutV o0_0 (IntKind.wrap .i64 (t2 + IntKind.wrap .i64 (t4 * (64 : Int)))) (64 : Int) o0_6)))]] ≤ (70368744177664 : Nat)))
  (.go 5 ralk1 (rals1 (t2) (t3) (IntKind.wrap .i64 (t4 + (1 : Int))) (o0_0) (o0_1 ++ [[D.int (Hd.name (hdRV (cutV o0_0 (IntKind.wrap .i64 (t2 + IntKind.wrap .i64 (t4 * (64 : Int)))) (64 : Int) o0_6))), D.int (Hd.type (hdRV (cutV o0_0 (IntKind.wrap .i64 (t2 + IntKind.wrap .i64 (t4 * (64 : Int)))) (64 : Int) o0_6))), D.int (Hd.flags (hdRV (cutV o0_0 (IntKind.wrap .i64 (t2 + IntKind.wrap .i64 (t4 * (64 : Int)))) (64 : Int) o0_6))), D.int (Hd.addr (hdRV (cutV o0_0 (IntKind.wrap .i64 (t2 + IntKind.wrap .i64 (t4 * (64 : Int)))) (64 : Int) o0_6))), D.int (Hd.offset (hdRV (cutV o0_0 (IntKind.wrap .i64 (t2 + IntKind.wrap .i64 (t4 * (64 : Int)))) (64 : Int) o0_6))), D.int (Hd.size (hdRV (cutV o0_0 (IntKind.wrap .i64 (t2 + IntKind.wrap .i64 (t4 * (64 : Int)))) (64 : Int) o0_6))), D.int (Hd.link (hdRV (cutV o0_0 (IntKind.wrap .i64 (t2 + IntKind.wrap .i64 (t4 * (64 : Int)))) (64 : Int) o0_6))), D.int (Hd.info (hdRV (cutV o0_0 (IntKind.wrap .i64 (t2 + IntKind.wrap .i64 (t4 * (64 : Int)))) (64 : Int) o0_6))), D.int (Hd.align (hdRV (cutV o0_0 (IntKind.wrap .i64 (t2 + IntKind.wrap .i64 (t4 * (64 : Int)))) (64 : Int) o0_6))), D.int (Hd.entry (hdRV (cutV o0_0 (IntKind.wrap .i64 (t2 + IntKind.wrap .i64 (t4 * (64 : Int)))) (64 : Int) o0_6)))]]) (o0_2) (o0_3) (o0_4) (o0_5) (cutE o0_0 (IntKind.wrap .i64 (t2 + IntKind.wrap .i64 (t4 * (64 : Int)))) (64 : Int) o0_6)))
  .fail))
  .fail)
  .fail)
  (.ret (.tup [], [[.arr u8s (o0_0), .own hdT (o0_1), .own secC (o0_2), .own symC (o0_3), .own relC (o0_4), .own grpC (o0_5), .val (.int .i64 (o0_6))]])))
  (.ret (.tup [], [[.arr u8s (o0_0), .own hdT (o0_1), .own secC (o0_2), .own symC (o0_3), .own relC (o0_4), .own grpC (o0_5), .val (.int .i64 (o0_6))]])))
set_option maxRecDepth 100000 in
theorem ralp1 (n : Nat) (t2 t3 t4 : Int) (o0_0 o0_1 o0_2 o0_3 o0_4 o0_5 : List (List D)) (o0_6 : Int) : exec er2 (n + 67) (92, Try.f92, 1) ralk1 (rals1 t2 t3 t4 o0_0 o0_1 o0_2 o0_3 o0_4 o0_5 o0_6) = Tr.val er2 (92, Try.f92, 1) n (ralt1 t2 t3 t4 o0_0 o0_1 o0_2 o0_3 o0_4 o0_5 o0_6) := by kernel_rfl
end Go.Proofs.Ytkcopbnaleiocaa.Ev
namespace Go.Proofs.Ytkcopbnaleiocaa.Ev
open Go
set_option linter.unusedVariables false
set_option linter.unusedSimpArgs false
theorem bytesIn_cut {xs : List (List D)} (h : bytesIn xs = true) (a b : Int) : bytesIn (cut xs a b) = true := by
  refine List.all_eq_true.2 fun e he => List.all_eq_true.1 h e ?_
  unfold cut at he
  exact List.mem_of_mem_drop (List.mem_of_mem_take he)
theorem bytesIn_cutV {xs : List (List D)} (h : bytesIn xs = true) (a n e : Int) : bytesIn (cutV xs a n e) = true := by
  unfold cutV
  split
  · exact bytesIn_cut h _ _
  · rfl
theorem runs_ral (b s y l g : List (List D)) (hb : bytesIn b = true) (hl : b.length ≤ 1048576) (place : Int) (many : Int) (hm : many ≤ 65536) :
    ∀ (d i : Nat) (h : List (List D)) (e : Int), ((d + i : Nat) : Int) = many ∨ (d = 0 ∧ many ≤ i) → h.length ≤ 1024 + i → i ≤ 65536 →
      Runs er2 (92, Try.f92, 1) ralk1 (rals1 place many (i : Nat) b h s y l g e) (fun r => Relax r.1 (.tup []) ∧ r.2 = [(allGo place d i ⟨b, h, s, y, l, g, e⟩).cells]) := by
  intro d
  induction d with
  | zero =>
    intro i h e hd hh hi
    refine Runs.of (fun q => ralp1 q place many _ b h s y l g e) ?_
    unfold ralt1
    exact askF (decF (by omega)) ⟨.one (.one (.refl _)), rfl⟩
  | succ d ih =>
    intro i h e hd hh hi
    refine Runs.of (fun q => ralp1 q place many _ b h s y l g e) ?_
    unfold ralt1
    have hw : IntKind.wrap .i64 ((i : Int) + 1) = ((i + 1 : Nat) : Int) := by rw [wrap64 (by omega) (by omega)]; omega
    refine askT (decT (by omega)) (ask (fun he => ?_) (fun he => ?_))
    · have he : e = 0 := beq_iff_eq.1 he
      have e0 : allGo place (d + 1) i ⟨b, h, s, y, l, g, e⟩ = allGo place d (i + 1) (allOne place i ⟨b, h, s, y, l, g, e⟩) := by
        rw [allGo, if_pos he]
      rw [e0, hw]
      have := ih (i + 1) (h ++ [(hdRV (allX b place i e)).row]) (if hdRE (allX b place i e) ≠ 0 then 8 else cutE b (IntKind.wrap .i64 (place + IntKind.wrap .i64 ((i : Int) * 64))) 64 e) (by omega) (by rw [List.length_append]; simp only [List.length_cons, List.length_nil]; omega) (by omega)
      have hx : bytesIn (allX b place i e) = true := bytesIn_cutV hb _ _ _
      refine askT (show decide (b.length ≤ 1048576) = true from decT hl) (askT hx (ask (fun h1 => ?_) (fun h1 => ?_)))
      · have h1 : hdRE (allX b place i e) ≠ 0 := bne_iff_ne.1 h1
        rw [if_pos h1] at this
        refine askT (andT (decT (by simp only [List.length_cons, List.length_nil]; omega)) (decT (by simp only [List.length_cons, List.length_nil]; omega))) ?_
        have e1 : allOne place i ⟨b, h, s, y, l, g, e⟩ = ⟨b, h ++ [(hdRV (allX b place i e)).row], s, y, l, g, 8⟩ := by
          simp only [allOne, if_pos h1]
        rw [e1]
        exact this
      · have h1 : (hdRE (allX b place i e) != 0) = false := h1
        have h1 : ¬ hdRE (allX b place i e) ≠ 0 := by simpa [bne] using h1
        rw [if_neg h1] at this
        refine askT (andT (decT (by simp only [List.length_cons, List.length_nil]; omega)) (decT (by simp only [List.length_cons, List.length_nil]; omega))) ?_
        have e1 : allOne place i ⟨b, h, s, y, l, g, e⟩ = ⟨b, h ++ [(hdRV (allX b place i e)).row], s, y, l, g, cutE b (IntKind.wrap .i64 (place + IntKind.wrap .i64 ((i : Int) * 64))) 64 e⟩ := by
          simp only [allOne, if_neg h1]
        rw [e1]
        exact this
    · have he : ¬ e = 0 := beq_eq_false_iff_ne.1 he
      have e0 : allGo place (d + 1) i ⟨b, h, s, y, l, g, e⟩ = ⟨b, h, s, y, l, g, e⟩ := by
        rw [allGo, if_neg he]
      rw [e0]
      exact ⟨.one (.one (.refl _)), rfl⟩
theorem leN_lt : ∀ (xs : List (List D)), bytesIn xs = true → 0 ≤ leN xs ∧ leN xs < 256 ^ xs.length
  | [], _ => by simp [leN]
  | e :: t, h => by
    have h' : (decide (0 ≤ (e.getD 0 default).toInt) && decide ((e.getD 0 default).toInt < 256) && bytesIn t) = true := h
    simp only [Bool.and_eq_true, decide_eq_true_eq] at h'
    have := leN_lt t h'.2
    have h1 := h'.1.1
    have h2 := h'.1.2
    rw [List.length_cons, Int.pow_succ]
    rw [leN]
    omega
theorem cut_len_le {xs : List (List D)} (a n : Nat) : (cut xs (a : Int) ((a : Int) + (n : Int))).length ≤ n := by
  unfold cut
  rw [List.length_take]
  omega
theorem getV2 {b : List (List D)} (hb : bytesIn b = true) : 0 ≤ getV b 60 2 ∧ getV b 60 2 ≤ 65535 := by
  unfold getV
  split
  · have h1 := leN_lt _ (bytesIn_cut hb 60 (60 + 2))
    have h2 : (cut b 60 (60 + 2)).length ≤ 2 := cut_len_le 60 2
    have h3 : (256 : Int) ^ (cut b 60 (60 + 2)).length ≤ 65536 := by
      have : (cut b 60 (60 + 2)).length = 0 ∨ (cut b 60 (60 + 2)).length = 1 ∨ (cut b 60 (60 + 2)).length = 2 := by omega
      rcases this with h | h | h <;> rw [h] <;> decide
    rw [wrap64 (by omega) (by omega)]
    omega
  · omega
theorem con_ral : ∀ vs os r, pAll vs os = true → gAll vs os = some r → Contract Try.prog 92 vs [os] (r.1, [r.2]) := by
  intro vs os r hp h
  unfold gAll at h
  split at h
  · split at h
    · rename_i d hd
      cases h
      simp only [pAll, hd, Bool.and_eq_true, decide_eq_true_eq] at hp
      obtain ⟨⟨p1, p2⟩, p3⟩ := hp
      have := rdOf_eq hd
      subst this
      refine el_conO le2_ok Try.func92 (by kernel_rfl) (by kernel_rfl) rfl (by kernel_rfl) (by kernel_rfl) (Runs.of (fun q => ralp0 q d.b d.h d.s d.y d.l d.g d.e) ?_)
      unfold ralt0
      have hn : (bytesIn d.b && decide (d.b.length ≤ 1048576)) = true := andT p1 (decT p2)
      obtain ⟨g1, g2⟩ := getV2 p1
      have go : ∀ e : Int, allE d.b d.e = e → Runs er2 (92, Try.f92, 1) ralk1 (rals1 (getV d.b 40 8) (getV d.b 60 2) 0 d.b d.h d.s d.y d.l d.g e) (fun r => Relax r.1 (.tup []) ∧ r.2 = [(allF d).cells]) := by
        intro e he
        have := runs_ral d.b d.s d.y d.l d.g p1 p2 (getV d.b 40 8) (getV d.b 60 2) (by omega) (getV d.b 60 2).toNat 0 d.h e (by omega) (by omega) (by omega)
        subst he
        exact this
      refine askT hn (askT hn (ask (fun h1 => ?_) (fun h1 => ask (fun h2 => ?_) (fun h2 => ?_))))
      · exact go 8 (by rw [allE, if_pos (of_decide_eq_true h1)])
      · exact go 8 (by rw [allE, if_neg (of_decide_eq_false h1), if_pos (of_decide_eq_true h2)])
      · exact go _ (by rw [allE, if_neg (of_decide_eq_false h1), if_neg (of_decide_eq_false h2)])
    · cases h
  · cases h
theorem le3_ok : ExtAll Try.prog le3 := .box con_ral le2_ok
end Go.Proofs.Ytkcopbnaleiocaa.Ev
namespace Go.Proofs.Ytkcopbnaleiocaa.Ev
open Go
set_option linter.unusedVariables false
set_option linter.unusedSimpArgs false
theorem leB_succ (n : Int) (k : Nat) : leB n (k + 1) = [.int (n % 256)] :: leB (n / 256) k := by
  unfold leB
  rw [List.range_succ_eq_map, List.map_cons, List.map_map]
  congr 1
  · simp
  · apply List.map_congr_left
    intro i _
    simp only [Function.comp]
    rw [Int.pow_succ, Int.mul_comm, Int.ediv_ediv, if_neg (by omega), Int.sub_zero]
theorem leB_len (n : Int) (k : Nat) : (leB n k).length = k := by simp [leB]
theorem emod_two (n m : Int) (hm : 0 < m) : n % (256 * m) = n % 256 + 256 * (n / 256 % m) := by
  have h1 := Int.emod_add_mul_ediv n 256
  have h2 := Int.emod_add_mul_ediv (n / 256) m
  have h3 := Int.emod_nonneg (n / 256) (show m ≠ 0 by omega)
  have h4 := Int.emod_lt_of_pos (n / 256) hm
  have e : n = (n % 256 + 256 * (n / 256 % m)) + 256 * m * (n / 256 / m) := by
    rw [Int.mul_assoc]; omega
  conv => lhs; rw [e]
  rw [Int.add_mul_emod_self_left]
  exact Int.emod_eq_of_lt (by omega) (by omega)
theorem leN_leB : ∀ (k : Nat) (n : Int), leN (leB n k) = n % 256 ^ k
  | 0, n => by simp [leB, leN, Int.emod_one]
  | k + 1, n => by
    rw [leB_succ, leN, leN_leB k (n / 256)]
    simp only [List.getD_cons_zero, D.toInt]
    rw [Int.pow_succ, Int.mul_comm (256 ^ k) 256, emod_two n _ (Int.pow_pos (by omega))]
theorem bytesIn_app {x y : List (List D)} (hx : bytesIn x = true) (hy : bytesIn y = true) : bytesIn (x ++ y) = true := by
  unfold bytesIn at *
  rw [List.all_append, hx, hy]; rfl
theorem bytesIn_leB : ∀ (k : Nat) (n : Int), bytesIn (leB n k) = true
  | 0, n => rfl
  | k + 1, n => by
    rw [leB_succ]
    show (decide (0 ≤ n % 256) && decide (n % 256 < 256) && bytesIn (leB (n / 256) k)) = true
    exact andT (andT (decT (by omega)) (decT (by omega))) (bytesIn_leB k _)
theorem bytesIn_putB (n k : Int) : bytesIn (putB n k) = true := by
  unfold putB
  split
  · exact bytesIn_leB _ _
  · rfl
theorem bytesIn_zeros (n : Nat) : bytesIn (zeros n) = true := by
  refine List.all_eq_true.2 fun e he => ?_
  obtain ⟨_, rfl⟩ := List.mem_replicate.1 he
  rfl
theorem bytesIn_row (s : ByteArray) : bytesIn (bytesRow s) = true := by
  refine List.all_eq_true.2 fun e he => ?_
  obtain ⟨b, _, rfl⟩ := List.mem_map.1 he
  have := b.toNat_lt
  exact andT (decT (show (0 : Int) ≤ (b.toNat : Int) by omega)) (decT (show (b.toNat : Int) < 256 by omega))
theorem bytesIn_padB {x : List (List D)} (h : bytesIn x = true) (m : Int) : bytesIn (padB x m) = true := by
  unfold padB
  split
  · exact bytesIn_app h (bytesIn_zeros _)
  · rfl
theorem bytesIn_flat {f : List D → List (List D)} (hf : ∀ e, bytesIn (f e) = true) : ∀ (L : List (List D)), bytesIn (L.map f).flatten = true
  | [] => rfl
  | e :: t => by rw [List.map_cons, List.flatten_cons]; exact bytesIn_app (hf e) (bytesIn_flat hf t)
theorem bytesIn_nums (k : Int) (l : List (List D)) : bytesIn (numsB k l) = true := bytesIn_flat (fun e => bytesIn_putB _ _) l
theorem bytesIn_relRow (e : List D) : bytesIn (relRow e) = true := by
  unfold relRow
  split
  · exact bytesIn_app (bytesIn_app (bytesIn_app (bytesIn_putB _ _) (bytesIn_putB _ _)) (bytesIn_putB _ _)) (bytesIn_putB _ _)
  · rfl
theorem bytesIn_symRow {e : List D} (h : 0 ≤ rI e 1) (a : Int) : bytesIn (symRow e a) = true := by
  unfold symRow
  split
  · rename_i hw
    have hb : rI e 1 ≤ 2 := by
      simp only [symWok, Bool.and_eq_true, beq_iff_eq] at hw
      have h0 := hw.1
      unfold symE at h0
      split at h0
      · cases h0
      · split at h0
        · rename_i h2
          simp only [Bool.and_eq_true] at h2
          have h3 := h2.2
          unfold standsB at h3
          split at h3
          · cases h3
          · omega
        · cases h0
    refine bytesIn_app (bytesIn_app (bytesIn_app (bytesIn_app (bytesIn_leB _ _) ?_) (bytesIn_leB _ _)) (bytesIn_leB _ _)) (bytesIn_leB _ _)
    show (decide (0 ≤ rI e 1 * 16) && decide (rI e 1 * 16 < 256) && (decide (0 ≤ (if rB e 2 = true then (2 : Int) else 0)) && decide ((if rB e 2 = true then (2 : Int) else 0) < 256) && true)) = true
    refine andT (andT (decT (by omega)) (decT (by omega))) (andT (andT (decT ?_) (decT ?_)) rfl)
    · split <;> omega
    · split <;> omega
  · rfl
theorem bytesIn_symsF (P : List (List D)) : ∀ (t : List (List D)) (i : Nat), posOk 1 t = true → bytesIn (symsF P t i) = true
  | [], i, _ => rfl
  | e :: t, i, h => by
    have h := h
    simp only [posOk, List.all_cons, Bool.and_eq_true, decide_eq_true_eq] at h
    rw [symsF]
    exact bytesIn_app (bytesIn_symRow h.1 _) (bytesIn_symsF P t (i + 1) h.2)
theorem bytesIn_bldGo : ∀ (ns : List ByteArray) (t m p : List (List D)), bytesIn t = true → bytesIn (bldGo ns t m p).t = true
  | [], t, m, p, h => by unfold bldGo; split <;> first | rfl | exact h
  | s :: r, t, m, p, h => by
    unfold bldGo
    split
    · rfl
    · split
      · exact bytesIn_bldGo r t m _ h
      · exact bytesIn_bldGo r _ _ _ (bytesIn_app (bytesIn_app h (bytesIn_row s)) rfl)
theorem bytesIn_bldR (xs : List (List D)) : bytesIn (bldR xs).t = true := by
  unfold bldR
  split
  · rfl
  · exact bytesIn_bldGo _ _ _ _ rfl
theorem partF_bytes {f : Fl} {x : List (List D)} (h : bytesIn f.b = true) (hx : bytesIn x = true) (nm : ByteArray) (hd : Hd) : bytesIn (partF f nm hd x).b = true := bytesIn_app (bytesIn_padB h _) hx
theorem secsF_bytes {m : List (List D)} : ∀ {S : List (List D)} {i : Nat} {f : Fl}, (∀ e ∈ S, bytesIn (rA e 2) = true) → bytesIn f.b = true → bytesIn (secsF m S i f).b = true
  | [], i, f, _, h => h
  | e :: t, i, f, hS, h => secsF_bytes (S := t) (fun e he => hS e (List.mem_cons_of_mem _ he)) (partF_bytes h (hS e List.mem_cons_self) _ _)
theorem grpsF_bytes {N : Int} : ∀ {G : List (List D)} {f : Fl}, bytesIn f.b = true → bytesIn (grpsF N G f).b = true
  | [], f, h => h
  | e :: t, f, h => grpsF_bytes (G := t) (partF_bytes h (bytesIn_app (bytesIn_nums _ _) (bytesIn_nums _ _)) _ _)
theorem relsF_bytes {N : Int} {S : List (List D)} : ∀ {W : List (List D)} {i : Nat} {f : Fl}, (∀ e ∈ W, bytesIn (rA e 0) = true) → bytesIn f.b = true → bytesIn (relsF N S W i f).b = true
  | [], i, f, _, h => h
  | e :: t, i, f, hW, h => by
    rw [relsF]
    refine relsF_bytes (W := t) (fun e he => hW e (List.mem_cons_of_mem _ he)) ?_
    split
    · exact partF_bytes h (hW e List.mem_cons_self) _ _
    · exact h
theorem byS_bytes (n : Nat) (L : List (List D)) : ∀ e ∈ byS n L, bytesIn (rA e 0) = true := by
  intro e he
  obtain ⟨i, _, rfl⟩ := List.mem_map.1 he
  exact bytesIn_flat bytesIn_relRow _
theorem wrF3_bytes {S Y L G : List (List D)} (hS : ∀ e ∈ S, bytesIn (rA e 2) = true) (hY : posOk 1 Y = true) : bytesIn (wrF3 S Y L G).b = true := by
  have h1 := secsF_bytes (m := grpMap G []) (S := S) (i := 0) (f := ⟨zeros 64, [], []⟩) hS (bytesIn_zeros 64)
  have h2 := grpsF_bytes (N := symFirst S L G) (G := G) h1
  have h3 := relsF_bytes (N := symFirst S L G) (S := S) (W := byS S.length L) (i := 0) (byS_bytes _ _) h2
  have h4 := partF_bytes h3 (bytesIn_app (bytesIn_zeros 24) (bytesIn_symsF (bldR (namesY Y)).p Y 0 hY)) sSym ⟨0, 2, 0, 0, 0, 0, ((symFirst S L G + 1 : Nat) : Int), ((locals Y + 1 : Nat) : Int), 8, 24⟩
  have h5 := partF_bytes h4 (bytesIn_bldR (namesY Y)) sStr ⟨0, 3, 0, 0, 0, 0, 0, 0, 1, 0⟩
  exact partF_bytes h5 (bytesIn_bldR _) sShs ⟨0, 3, 0, 0, 0, 0, 0, 0, 1, 0⟩
theorem hd_bytes (h : Hd) : bytesIn h.b = true :=
  bytesIn_app (bytesIn_app (bytesIn_app (bytesIn_app (bytesIn_app (bytesIn_app (bytesIn_app (bytesIn_app (bytesIn_app (bytesIn_leB _ _) (bytesIn_leB _ _)) (bytesIn_leB _ _)) (bytesIn_leB _ _)) (bytesIn_leB _ _)) (bytesIn_leB _ _)) (bytesIn_leB _ _)) (bytesIn_leB _ _)) (bytesIn_leB _ _)) (bytesIn_leB _ _)
theorem headsF_bytes (P : List (List D)) : ∀ (t : List (List D)) (i : Nat), bytesIn (headsF P t i) = true
  | [], i => rfl
  | e :: t, i => by
    rw [headsF]
    refine bytesIn_app ?_ (headsF_bytes P t (i + 1))
    unfold hdB
    split
    · exact hd_bytes _
    · rfl
theorem hd_len (h : Hd) : h.b.length = 64 := by
  simp only [Hd.b, List.length_append, leB_len]
def rowOk (e : List D) : Bool := f4 (rI e 1) && f8 (rI e 2) && f8 (rI e 3) && f8 (rI e 4) && f8 (rI e 5) && f4 (rI e 6) && f4 (rI e 7) && f8 (rI e 8) && f8 (rI e 9)
def hOk (h : Hd) : Bool := f4 h.type && f8 h.flags && f8 h.addr && f8 h.size && f4 h.link && f4 h.info && f8 h.align && f8 h.entry
theorem partF_ok {f : Fl} (hf : f.heads.all rowOk = true) {hd : Hd} (h : hOk hd = true) (nm : ByteArray) (x : List (List D)) : (partF f nm hd x).heads.all rowOk = true := by
  refine Eq.trans (List.all_append (xs := f.heads) (ys := [_])) ?_
  rw [hf, Bool.true_and, List.all_cons, List.all_nil, Bool.and_true]
  simp only [hOk, Bool.and_eq_true] at h
  obtain ⟨⟨⟨⟨⟨⟨⟨h1, h2⟩, h3⟩, h4⟩, h5⟩, h6⟩, h7⟩, h8⟩ := h
  refine andT (andT (andT (andT (andT (andT (andT (andT h1 h2) h3) ?_) ?_) h5) h6) h7) h8
  · exact decT (show (0 : Int) ≤ ((padB f.b hd.align).length : Nat) by omega)
  · show f8 (if hd.type = 8 then hd.size else (x.length : Nat)) = true
    split
    · exact h4
    · exact decT (by omega)
theorem mem_setRow {kc : CT} {k : Value} {n x : List D} : ∀ {m : List (List D)}, x ∈ setRow kc k n m → x = n ∨ x ∈ m
  | [], h => .inl (List.mem_singleton.1 h)
  | e :: t, h => by
    unfold setRow at h
    split at h
    · rcases List.mem_cons.1 h with h | h
      · exact .inl h
      · exact .inr (List.mem_cons_of_mem _ h)
    · rcases List.mem_cons.1 h with h | h
      · exact .inr (by rw [h]; exact List.mem_cons_self)
      · rcases mem_setRow h with h | h
        · exact .inl h
        · exact .inr (List.mem_cons_of_mem _ h)
theorem findRow_mem {kc : CT} {k : Value} {e : List D} : ∀ {m : List (List D)}, findRow kc k m = some e → e ∈ m
  | [], h => by cases h
  | a :: t, h => by
    unfold findRow at h
    split at h
    · cases h; exact List.mem_cons_self
    · exact List.mem_cons_of_mem _ (findRow_mem h)
theorem lookD_in {kc : CT} {k : Value} {z : D} {P : D → Prop} {m : List (List D)} (hz : P z) (h : ∀ e ∈ m, P (e.getD 1 default)) : P (lookD kc k z m) := by
  unfold lookD
  split
  · rename_i e he; exact h e (findRow_mem he)
  · exact hz
def InG (d : D) : Prop := d.toInt = 0 ∨ d.toInt = 512
theorem grpOne_in : ∀ {g m : List (List D)}, (∀ e ∈ m, InG (e.getD 1 default)) → ∀ e ∈ grpOne g m, InG (e.getD 1 default)
  | [], m, h => h
  | a :: t, m, h => grpOne_in (g := t) (fun e he => by
      rcases mem_setRow he with rfl | he
      · exact .inr rfl
      · exact h e he)
theorem grpMap_in : ∀ {G m : List (List D)}, (∀ e ∈ m, InG (e.getD 1 default)) → ∀ e ∈ grpMap G m, InG (e.getD 1 default)
  | [], m, h => h
  | a :: t, m, h => grpMap_in (G := t) (grpOne_in h)
theorem flag_in (k : Nat) : 0 ≤ List.getD [0, 6, 2, 3, 3] k (0 : Int) ∧ List.getD [0, 6, 2, 3, 3] k (0 : Int) ≤ 6 := by
  match k with
  | 0 | 1 | 2 | 3 | 4 => decide
  | k + 5 => simp
theorem secHd_ok {m : List (List D)} (hm : ∀ e ∈ m, InG (e.getD 1 default)) (i : Nat) {e : List D} (h : secOk (rS e 0) (rI e 1) (rA e 2).length (rI e 3) = true) : hOk (secHd m i e) = true := by
  have hl : InG (lookD (.int .i64) (.int .i64 ((i + 1 : Nat) : Int)) (.int 0) m) := lookD_in (.inl rfl) hm
  have hf := flag_in (kindV (rS e 0)).toNat
  simp only [secOk, Bool.and_eq_true, decide_eq_true_eq, alignOk] at h
  obtain ⟨⟨h1, ⟨h2, h3⟩, h4⟩, h5⟩ := h
  have fl : f8 (secHd m i e).flags = true := by
    show decide (0 ≤ IntKind.wrap .i64 (List.getD [0, 6, 2, 3, 3] (kindV (rS e 0)).toNat 0 + (lookD (.int .i64) (.int .i64 ((i + 1 : Nat) : Int)) (.int 0) m).toInt)) = true
    rcases hl with hl | hl <;> rw [hl, wrap64 (by omega) (by omega)] <;> exact decT (by omega)
  have ty : f4 (secHd m i e).type = true := by
    show f4 (if kindV (rS e 0) = 4 then 8 else 1) = true
    split <;> rfl
  have sz : f8 (secHd m i e).size = true := by
    show f8 (if kindV (rS e 0) = 4 then rI e 3 else 0) = true
    split
    · rename_i hk
      rw [if_pos hk] at h5
      simp only [Bool.and_eq_true, decide_eq_true_eq] at h5
      exact decT h5.1.2
    · rfl
  exact andT (andT (andT (andT (andT (andT (andT ty fl) rfl) sz) rfl) rfl) (decT (by show 0 ≤ rI e 1; omega))) rfl
theorem secsF_ok {m : List (List D)} (hm : ∀ e ∈ m, InG (e.getD 1 default)) : ∀ {S : List (List D)} {i : Nat} {f : Fl}, secAll S = true → f.heads.all rowOk = true → (secsF m S i f).heads.all rowOk = true
  | [], i, f, _, h => h
  | e :: t, i, f, hS, h => by
    have hS' : (secOk (rS e 0) (rI e 1) (rA e 2).length (rI e 3) && secAll t) = true := hS
    simp only [Bool.and_eq_true] at hS'
    exact secsF_ok hm (S := t) hS'.2 (partF_ok h (secHd_ok hm i hS'.1) _ _)
theorem grpsF_ok {N : Int} (hN : f4 N = true) : ∀ {G : List (List D)} {f : Fl}, f.heads.all rowOk = true → (grpsF N G f).heads.all rowOk = true
  | [], f, h => h
  | e :: t, f, h => grpsF_ok hN (G := t) (partF_ok h (andT (andT (andT (andT (andT (andT (andT rfl rfl) rfl) rfl) hN) rfl) rfl) rfl) _ _)
theorem relsF_ok {N : Int} (hN : f4 N = true) {S : List (List D)} : ∀ {W : List (List D)} {i : Nat} {f : Fl}, i + W.length ≤ 1048576 → f.heads.all rowOk = true → (relsF N S W i f).heads.all rowOk = true
  | [], i, f, _, h => h
  | e :: t, i, f, hi, h => by
    rw [List.length_cons] at hi
    rw [relsF]
    refine relsF_ok hN (W := t) (by omega) ?_
    split
    · exact partF_ok h (hd := ⟨0, 4, 64, 0, 0, 0, N, ((i + 1 : Nat) : Int), 8, 24⟩) (andT (andT (andT (andT (andT (andT (andT rfl rfl) rfl) rfl) hN) (andT (decT (show (0 : Int) ≤ ((i + 1 : Nat) : Int) by omega)) (decT (show ((i + 1 : Nat) : Int) < 4294967296 by omega)))) rfl) rfl) _ _
    · exact h
theorem full_le' (W : List (List D)) : full W ≤ W.length := List.length_filter_le _ _
theorem locals_le' (Y : List (List D)) : locals Y ≤ Y.length := List.length_filter_le _ _
theorem f4_nat (n : Nat) (h : n < 4294967296) : f4 (n : Int) = true := andT (decT (by omega)) (decT (by omega))
theorem wrF3_ok {S Y L G : List (List D)} (h : chkB S Y L G = true) : (wrF3 S Y L G).heads.all rowOk = true := by
  simp only [chkB, Bool.and_eq_true, decide_eq_true_eq] at h
  obtain ⟨⟨⟨⟨h1, h2⟩, h3⟩, h4⟩, h5⟩ := h
  simp only [symsB, Bool.and_eq_true, decide_eq_true_eq] at h3
  simp only [grpsB, Bool.and_eq_true, decide_eq_true_eq] at h5
  have hf := full_le' (byS S.length L)
  rw [byS_len] at hf
  have hl := locals_le' Y
  have hN : f4 (symFirst S L G : Nat) = true := f4_nat _ (by unfold symFirst; omega)
  have hN1 : f4 ((symFirst S L G + 1 : Nat) : Int) = true := f4_nat _ (by unfold symFirst; omega)
  have hl1 : f4 ((locals Y + 1 : Nat) : Int) = true := f4_nat _ (by omega)
  have a1 := secsF_ok (m := grpMap G []) (grpMap_in (G := G) (m := []) (fun e he => by cases he)) (S := S) (i := 0) (f := ⟨zeros 64, [], []⟩) h2 rfl
  have a2 := grpsF_ok hN (G := G) a1
  have a3 := relsF_ok hN (S := S) (W := byS S.length L) (i := 0) (by rw [byS_len]; omega) a2
  have a4 := partF_ok a3 (hd := ⟨0, 2, 0, 0, 0, 0, ((symFirst S L G + 1 : Nat) : Int), ((locals Y + 1 : Nat) : Int), 8, 24⟩) (andT (andT (andT (andT (andT (andT (andT rfl rfl) rfl) rfl) hN1) hl1) rfl) rfl) sSym (zeros 24 ++ symsF (bldR (namesY Y)).p Y 0)
  have a5 := partF_ok a4 (hd := ⟨0, 3, 0, 0, 0, 0, 0, 0, 1, 0⟩) rfl sStr (bldR (namesY Y)).t
  exact partF_ok a5 (hd := ⟨0, 3, 0, 0, 0, 0, 0, 0, 1, 0⟩) rfl sShs (wrTb S Y L G).t
theorem bldGo_pos : ∀ (ns : List ByteArray) (t m p : List (List D)), (∀ s ∈ ns, nmG 40 s) → t.length + 41 * ns.length ≤ 65536 → (∀ e ∈ m, 0 ≤ (e.getD 1 default).toInt ∧ (e.getD 1 default).toInt ≤ 65535) → (∀ e ∈ p, 0 ≤ rI e 0 ∧ rI e 0 ≤ 65535) → ∀ e ∈ (bldGo ns t m p).p, 0 ≤ rI e 0 ∧ rI e 0 ≤ 65535
  | [], t, m, p, _, h, hm, hp => by
    simp only [List.length_nil, Nat.mul_zero, Nat.add_zero] at h
    rw [bldGo, if_neg (by omega)]; exact hp
  | s :: r, t, m, p, hs, h, hm, hp => by
    have h1 := hs s List.mem_cons_self
    have h2 := graph_ix h1.2
    have h3 := h1.1
    simp only [List.length_cons] at h
    rw [bldGo, if_neg (by omega)]
    split
    · refine bldGo_pos r t m _ (fun s h => hs s (List.mem_cons_of_mem _ h)) (by omega) hm fun e he => ?_
      rcases List.mem_append.1 he with he | he
      · exact hp e he
      · obtain rfl := List.mem_singleton.1 he
        exact lookD_in (P := fun d => 0 ≤ d.toInt ∧ d.toInt ≤ 65535) ⟨Int.le_refl _, by decide⟩ hm
    · have hl : (t ++ bytesRow s ++ [[D.int 0]]).length = t.length + s.size + 1 := by rw [List.length_append, List.length_append, bytesRow_length]; rfl
      refine bldGo_pos r _ _ _ (fun s h => hs s (List.mem_cons_of_mem _ h)) (by rw [hl]; omega) (fun e he => ?_) fun e he => ?_
      · rcases mem_setRow he with rfl | he
        · exact ⟨show (0 : Int) ≤ (t.length : Nat) by omega, show ((t.length : Nat) : Int) ≤ 65535 by omega⟩
        · exact hm e he
      · rcases List.mem_append.1 he with he | he
        · exact hp e he
        · obtain rfl := List.mem_singleton.1 he
          exact ⟨show (0 : Int) ≤ (t.length : Nat) by omega, show ((t.length : Nat) : Int) ≤ 65535 by omega⟩
theorem bldR_pos {xs : List (List D)} (h : nmAll xs) (hl : xs.length ≤ 1000) (i : Nat) : 0 ≤ cellI (bldR xs).p i 0 ∧ cellI (bldR xs).p i 0 ≤ 65535 := by
  have key := bldGo_pos (namesOf xs) [[.int 0]] [[.str .empty, .int 0]] [] (fun s hs => by
    obtain ⟨e, he, rfl⟩ := List.mem_map.1 hs
    exact h e he) (by simp only [namesOf, List.length_map, List.length_cons, List.length_nil]; omega) (fun e he => by
      obtain rfl := List.mem_singleton.1 he
      exact ⟨by decide, by decide⟩) (fun e he => by cases he)
  have e0 : (bldR xs).p = (bldGo (namesOf xs) [[.int 0]] [[.str .empty, .int 0]] []).p := by rw [bldR, if_neg (by omega)]
  rw [e0]
  rcases Nat.lt_or_ge i (bldGo (namesOf xs) [[.int 0]] [[.str .empty, .int 0]] []).p.length with hi | hi
  · rw [show cellI _ i 0 = rI (List.getD _ i []) 0 from rfl, List.getD_eq_getElem?_getD, List.getElem?_eq_getElem hi]
    exact key _ (List.getElem_mem hi)
  · rw [show cellI _ i 0 = rI (List.getD _ i []) 0 from rfl, List.getD_eq_getElem?_getD, List.getElem?_eq_none hi]
    exact ⟨by decide, by decide⟩
theorem hd_ok {e : List D} (he : rowOk e = true) {n : Int} (h0 : 0 ≤ n) (h1 : n ≤ 65535) : (hdOf e n).ok = true := by
  simp only [rowOk, Bool.and_eq_true] at he
  obtain ⟨⟨⟨⟨⟨⟨⟨⟨e1, e2⟩, e3⟩, e4⟩, e5⟩, e6⟩, e7⟩, e8⟩, e9⟩ := he
  exact andT (andT (andT (andT (andT (andT (andT (andT (andT (andT (decT h0) (decT (show n < 4294967296 by omega))) e1) e2) e3) e4) e5) e6) e7) e8) e9
theorem headsF_len {P : List (List D)} (hP : ∀ i, 0 ≤ cellI P i 0 ∧ cellI P i 0 ≤ 65535) : ∀ (t : List (List D)) (i : Nat), t.all rowOk = true → (headsF P t i).length = 64 * t.length
  | [], i, _ => rfl
  | e :: t, i, h => by
    simp only [List.all_cons, Bool.and_eq_true] at h
    rw [headsF, List.length_append, headsF_len hP t (i + 1) h.2, hdB, if_pos (hd_ok h.1 (hP i).1 (hP i).2), hd_len, List.length_cons]
    omega
theorem wr_pos {S Y L G : List (List D)} (h : chkB S Y L G = true) (i : Nat) : 0 ≤ cellI (wrTb S Y L G).p i 0 ∧ cellI (wrTb S Y L G).p i 0 ≤ 65535 := by
  simp only [chkB, Bool.and_eq_true, decide_eq_true_eq] at h
  obtain ⟨⟨⟨⟨h1, h2⟩, h3⟩, h4⟩, h5⟩ := h
  simp only [grpsB, Bool.and_eq_true, decide_eq_true_eq] at h5
  have hS : ∀ e ∈ S, nmG 32 (rS e 0) := fun e he => (secAll_get h2 he).1
  have hG := grpsGo_get (by omega) h5.1
  have hn := wrF2_nm (Y := Y) (L := L) hS (fun e he => (hG e he).1)
  have hq := bldR_pos (xs := (wrF2 S Y L G).names ++ [[.str sShs]]) (nmAll_snoc hn.1 shs_g) (by rw [List.length_append]; simp only [List.length_cons, List.length_nil]; omega) i
  unfold wrTb
  exact hq
def wrPl (S Y L G : List (List D)) : Nat := (padB (wrF3 S Y L G).b 8).length
def wrMn (S Y L G : List (List D)) : Nat := (wrF3 S Y L G).heads.length + 1
theorem wrAll_len {S Y L G : List (List D)} (h : chkB S Y L G = true) : (wrAll S Y L G).length = wrPl S Y L G + 64 * wrMn S Y L G := by
  rw [wrAll, List.length_append, List.length_append, headsF_len (wr_pos h) _ 0 (wrF3_ok h), wrPl, wrMn]
  simp [zeros]; omega
theorem secsF_ge {m : List (List D)} : ∀ {S : List (List D)} {i : Nat} {f : Fl}, secAll S = true → f.b.length ≤ (secsF m S i f).b.length
  | [], i, f, _ => Nat.le_refl _
  | e :: t, i, f, hS => by
    have hS' : (secOk (rS e 0) (rI e 1) (rA e 2).length (rI e 3) && secAll t) = true := hS
    simp only [Bool.and_eq_true] at hS'
    have ha : padOk (secHd m i e).align = true := by
      have h := hS'.1
      simp only [secOk, alignOk, Bool.and_eq_true, decide_eq_true_eq] at h
      exact andT (decT (show 1 ≤ rI e 1 by omega)) (decT (show rI e 1 ≤ 4096 by omega))
    have h1 := partF_ge f (rS e 0) (secHd m i e) (rA e 2) ha
    have h2 := secsF_ge (m := m) (S := t) (i := i + 1) (f := partF f (rS e 0) (secHd m i e) (rA e 2)) hS'.2
    rw [secsF]; omega
theorem chk_sec {S Y L G : List (List D)} (h : chkB S Y L G = true) : secAll S = true := by
  simp only [chkB, Bool.and_eq_true] at h
  exact h.1.1.1.2
theorem wrPl_ge {S Y L G : List (List D)} (h : chkB S Y L G = true) : 64 ≤ wrPl S Y L G := by
  have h0 := secsF_ge (m := grpMap G []) (S := S) (i := 0) (f := ⟨zeros 64, [], []⟩) (chk_sec h)
  have h1 := restF_ge S Y L G (secsF (grpMap G []) S 0 ⟨zeros 64, [], []⟩)
  have h2 := partF_ge (wrF2 S Y L G) sShs ⟨0, 3, 0, 0, 0, 0, 0, 0, 1, 0⟩ (wrTb S Y L G).t rfl
  have h3 := padB_ge (wrF3 S Y L G).b 8 rfl
  have e2 : restF S Y L G (secsF (grpMap G []) S 0 ⟨zeros 64, [], []⟩) = wrF2 S Y L G := rfl
  have e3 : partF (wrF2 S Y L G) sShs ⟨0, 3, 0, 0, 0, 0, 0, 0, 1, 0⟩ (wrTb S Y L G).t = wrF3 S Y L G := rfl
  rw [e2] at h1
  rw [e3] at h2
  have h4 : (⟨zeros 64, [], []⟩ : Fl).b.length = 64 := by simp [zeros]
  unfold wrPl
  omega
theorem secsF_hn {m : List (List D)} : ∀ {S : List (List D)} {i : Nat} {f : Fl}, (secsF m S i f).heads.length = f.heads.length + S.length
  | [], i, f => rfl
  | e :: t, i, f => by
    have ih := secsF_hn (m := m) (S := t) (i := i + 1) (f := partF f (rS e 0) (secHd m i e) (rA e 2))
    rw [(partF_len f (rS e 0) (secHd m i e) (rA e 2)).2.1] at ih
    rw [secsF, ih, List.length_cons]; omega
theorem grpsF_hn {N : Int} : ∀ {G : List (List D)} {f : Fl}, (grpsF N G f).heads.length = f.heads.length + G.length
  | [], f => rfl
  | e :: t, f => by
    have ih := grpsF_hn (N := N) (G := t) (f := partF f (sGrp ++ rS e 0) ⟨0, 17, 0, 0, 0, 0, N, 0, 4, 4⟩ (numsB 4 [[.int 1]] ++ numsB 4 (rA e 1)))
    rw [(partF_len f (sGrp ++ rS e 0) ⟨0, 17, 0, 0, 0, 0, N, 0, 4, 4⟩ (numsB 4 [[.int 1]] ++ numsB 4 (rA e 1))).2.1] at ih
    exact Eq.trans (show (grpsF N (e :: t) f).heads.length = _ from ih) (by rw [List.length_cons]; omega)
theorem relsF_hn {N : Int} {S : List (List D)} : ∀ {W : List (List D)} {i : Nat} {f : Fl}, f.heads.length ≤ (relsF N S W i f).heads.length ∧ (relsF N S W i f).heads.length ≤ f.heads.length + W.length
  | [], i, f => ⟨Nat.le_refl _, Nat.le_refl _⟩
  | e :: t, i, f => by
    rw [relsF]
    split
    · have ih := relsF_hn (N := N) (S := S) (W := t) (i := i + 1) (f := partF f (sRel ++ rS (S.getD i []) 0) ⟨0, 4, 64, 0, 0, 0, N, ((i + 1 : Nat) : Int), 8, 24⟩ (rA e 0))
      rw [(partF_len f (sRel ++ rS (S.getD i []) 0) ⟨0, 4, 64, 0, 0, 0, N, ((i + 1 : Nat) : Int), 8, 24⟩ (rA e 0)).2.1] at ih
      rw [List.length_cons]; omega
    · have ih := relsF_hn (N := N) (S := S) (W := t) (i := i + 1) (f := f)
      rw [List.length_cons]; omega
theorem wrMn_in {S Y L G : List (List D)} (h : chkB S Y L G = true) : 4 + S.length ≤ wrMn S Y L G ∧ wrMn S Y L G ≤ 100 := by
  have a1 := secsF_hn (m := grpMap G []) (S := S) (i := 0) (f := ⟨zeros 64, [], []⟩)
  have a2 := grpsF_hn (N := symFirst S L G) (G := G) (f := secsF (grpMap G []) S 0 ⟨zeros 64, [], []⟩)
  have a3 := relsF_hn (N := symFirst S L G) (S := S) (W := byS S.length L) (i := 0) (f := grpsF (symFirst S L G) G (secsF (grpMap G []) S 0 ⟨zeros 64, [], []⟩))
  rw [byS_len, a2, a1] at a3
  have a4 : wrMn S Y L G = (relsF (symFirst S L G) S (byS S.length L) 0 (grpsF (symFirst S L G) G (secsF (grpMap G []) S 0 ⟨zeros 64, [], []⟩))).heads.length + 1 + 1 + 1 + 1 := by
    unfold wrMn wrF3 wrF2 restF
    simp only [partF, List.length_append, List.length_cons, List.length_nil]
  simp only [chkB, grpsB, Bool.and_eq_true, decide_eq_true_eq] at h
  obtain ⟨⟨⟨⟨h1, h2⟩, h3⟩, h4⟩, h5, h6⟩ := h
  have h0 : (⟨zeros 64, [], []⟩ : Fl).heads.length = 0 := rfl
  omega
theorem putB2 {n : Int} (h0 : 0 ≤ n) (h1 : n < 65536) : putB n 2 = leB n 2 := by
  have : putOk n 2 = true := by simp [putOk, siz]; omega
  rw [putB, if_pos this]; rfl
def hA : List (List D) := [127, 69, 76, 70, 2, 1, 1, 0, 0, 0, 0, 0, 0, 0, 0, 0, 1, 0, 243, 0, 1, 0, 0, 0, 0, 0, 0, 0, 0, 0, 0, 0, 0, 0, 0, 0, 0, 0, 0, 0].map fun n => [D.int n]
def hC : List (List D) := [1, 0, 0, 0, 64, 0, 0, 0, 0, 0, 64, 0].map fun n => [D.int n]
theorem first_eq {p m : Nat} (h1 : 1 ≤ m) (h2 : m ≤ 100) : firstB (p : Nat) (m : Nat) = hA ++ (leB (p : Nat) 8 ++ (hC ++ (leB (m : Nat) 2 ++ leB ((m : Int) - 1) 2))) := by
  unfold firstB
  rw [putB8, putB2 (by omega) (by omega), wrap64 (by omega) (by omega), putB2 (by omega) (by omega)]
  simp only [List.append_assoc]; rfl
theorem first_len {p m : Nat} (h1 : 1 ≤ m) (h2 : m ≤ 100) : (firstB (p : Nat) (m : Nat)).length = 64 := by
  rw [first_eq h1 h2]
  simp only [List.length_append, leB_len, hA, hC, List.length_map, List.length_cons, List.length_nil]
theorem wrB_eq {S Y L G : List (List D)} (h : chkB S Y L G = true) : wrB S Y L G = firstB (wrPl S Y L G : Nat) (wrMn S Y L G : Nat) ++ (wrAll S Y L G).drop 64 := by
  obtain ⟨m1, m2⟩ := wrMn_in h
  have hp := wrPl_ge h
  have hl := wrAll_len h
  have hm : IntKind.wrap .i64 (((wrF3 S Y L G).heads.length : Int) + 1) = ((wrMn S Y L G : Nat) : Int) := by
    unfold wrMn at *
    rw [wrap64 (by omega) (by omega)]; omega
  have hf : (firstB (wrPl S Y L G : Nat) (wrMn S Y L G : Nat)).length = 64 := first_len (by omega) (by omega)
  rw [wrB, wrFst, hm]
  show copyB (firstB (wrPl S Y L G : Nat) (wrMn S Y L G : Nat)) (wrAll S Y L G) = _
  unfold copyB
  rw [List.take_of_length_le (l := firstB _ _) (by omega), hf, Nat.min_eq_left (by omega), Nat.zero_add]
  exact List.take_of_length_le (by rw [List.length_append, List.length_drop, hf]; omega)
theorem wrB_len {S Y L G : List (List D)} (h : chkB S Y L G = true) : (wrB S Y L G).length = wrPl S Y L G + 64 * wrMn S Y L G := by
  obtain ⟨m1, m2⟩ := wrMn_in h
  have hp := wrPl_ge h
  have hl := wrAll_len h
  rw [wrB_eq h, List.length_append, first_len (by omega) (by omega), List.length_drop]; omega
theorem wrB_bytes {S Y L G : List (List D)} (h : chkB S Y L G = true) (hS : ∀ e ∈ S, bytesIn (rA e 2) = true) (hY : posOk 1 Y = true) : bytesIn (wrB S Y L G) = true := by
  obtain ⟨m1, m2⟩ := wrMn_in h
  rw [wrB_eq h, first_eq (by omega) (by omega)]
  have ha : bytesIn (wrAll S Y L G) = true := bytesIn_app (bytesIn_app (bytesIn_padB (wrF3_bytes hS hY) _) (bytesIn_zeros _)) (headsF_bytes _ _ _)
  refine bytesIn_app (bytesIn_app (by kernel_rfl) (bytesIn_app (bytesIn_leB _ _) (bytesIn_app (by kernel_rfl) (bytesIn_app (bytesIn_leB _ _) (bytesIn_leB _ _))))) ?_
  exact List.all_eq_true.2 fun e he => List.all_eq_true.1 ha e (List.mem_of_mem_drop he)
theorem cut_mid {α : Type} (A X B : List α) (a b : Int) (ha : a = (A.length : Nat)) (hb : b = (A.length : Nat) + (X.length : Nat)) : cut (A ++ (X ++ B)) a b = X := by
  unfold cut
  rw [ha, show b.toNat = A.length + X.length from by omega, Int.toNat_natCast, List.drop_left, show A.length + X.length - A.length = X.length from by omega, List.take_left]
theorem getV_mid {A B : List (List D)} {n : Int} {k : Nat} (hk : siz k = true) (h0 : 0 ≤ n) (h1 : n < 256 ^ k) (h2 : n < 9223372036854775808) {a : Int} (ha : a = (A.length : Nat)) : getV (A ++ (leB n k ++ B)) a k = n := by
  have e0 : getE (A ++ (leB n k ++ B)) a k = 0 := by
    unfold getE
    rw [hk]
    simp only [Bool.not_true, Bool.false_eq_true, if_false]
    rw [if_neg]
    rw [List.length_append, List.length_append, leB_len]
    omega
  rw [getV, if_pos e0, cut_mid A (leB n k) B a _ ha (by rw [leB_len, ha]), leN_leB, Int.emod_eq_of_lt h0 h1, wrap64 (by omega) (by omega)]
theorem wrB_place {S Y L G : List (List D)} (h : chkB S Y L G = true) : getV (wrB S Y L G) 40 8 = (wrPl S Y L G : Nat) ∨ 9223372036854775808 ≤ wrPl S Y L G := by
  obtain ⟨m1, m2⟩ := wrMn_in h
  rcases Nat.lt_or_ge (wrPl S Y L G) 9223372036854775808 with hp | hp
  · left
    rw [wrB_eq h, first_eq (by omega) (by omega)]
    simp only [List.append_assoc]
    exact getV_mid (k := 8) rfl (by omega) (by rw [show (256 : Int) ^ 8 = 18446744073709551616 from by decide]; omega) (by omega) rfl
  · exact .inr hp
theorem wrB_many {S Y L G : List (List D)} (h : chkB S Y L G = true) : getV (wrB S Y L G) 60 2 = (wrMn S Y L G : Nat) := by
  obtain ⟨m1, m2⟩ := wrMn_in h
  rw [wrB_eq h, first_eq (by omega) (by omega)]
  have e : (hA ++ (leB (wrPl S Y L G : Nat) 8 ++ (hC ++ (leB (wrMn S Y L G : Nat) 2 ++ leB ((wrMn S Y L G : Int) - 1) 2)))) ++ (wrAll S Y L G).drop 64 = (hA ++ (leB (wrPl S Y L G : Nat) 8 ++ hC)) ++ (leB (wrMn S Y L G : Nat) 2 ++ (leB ((wrMn S Y L G : Int) - 1) 2 ++ (wrAll S Y L G).drop 64)) := by simp only [List.append_assoc]
  rw [e]
  refine getV_mid (k := 2) rfl (by omega) (by rw [show (256 : Int) ^ 2 = 65536 from by decide]; omega) (by omega) ?_
  simp only [List.length_append, leB_len, hA, hC, List.length_map, List.length_cons, List.length_nil]
  rfl
end Go.Proofs.Ytkcopbnaleiocaa.Ev
namespace Go.Proofs.Ytkcopbnaleiocaa.Ev
open Go
set_option linter.unusedVariables false
def cutName (nm : ByteArray) : ByteArray := nm.extract (if (nm.size : Int) < 7 then (nm.size : Int) else 7).toNat nm.size
def grpR (x : List (List D)) : Nat → Int → Int → List (List D) → List (List D) × Int
  | 0, _, e, l => (l, e)
  | d + 1, a, e, l => if a < x.length then grpR x d (a + 4) (numE x a 4 e) (l ++ [[.int (getV x a 4)]]) else (l, e)
def relOne (x : List (List D)) (info : Int) : List D := [.int info, .int (okI (relRe x) (getV x 0 8)), .int (okI (relRe x) (relRk x)), .int (okI (relRe x) (relRc x)), .int (okI (relRe x) (getV x 16 8))]
def relR (info : Int) : Nat → List (List D) → Int → List (List D) → List (List D) × Int
  | 0, _, e, l => (l, e)
  | d + 1, x, e, l => if 24 ≤ x.length then relR info d (x.drop 24) (if relRe (x.take 24) ≠ 0 then relRe (x.take 24) else e) (l ++ [relOne (x.take 24) info]) else (l, e)
def symOne (x : List (List D)) (nm : ByteArray) : List D := [.str nm, .int (symRb x), .bool (symRh x), .int (symRw x), .int (getV x 8 8), .int (getV x 16 8)]
def symR (x : List (List D)) : Nat → Int → Rd → Rd
  | 0, _, r => r
  | d + 1, a, r => if a + 24 ≤ x.length ∧ r.e = 0 then (if symRe (cut x a (a + 24)) ≠ 0 then { r with e := symRe (cut x a (a + 24)) } else symR x d (a + 24) { r with y := r.y ++ [symOne (cut x a (a + 24)) (nameS r (r.h.length - 2) (getV (cut x a (a + 24)) 0 4))], e := nameE r (r.h.length - 2) (getV (cut x a (a + 24)) 0 4) }) else r
def partN (r : Rd) (h : Hd) : Rd := { r with e := nameE r (r.h.length - 1) h.name }
def partC (r : Rd) (h : Hd) : Rd := { partN r h with e := cutE r.b h.offset h.size (partN r h).e }
def partX (r : Rd) (h : Hd) : List (List D) := cutV r.b h.offset h.size (partN r h).e
def partR (r : Rd) (h : Hd) : Rd :=
  if h.type = 8 then { partN r h with s := r.s ++ [[.str (nameS r (r.h.length - 1) h.name), .int h.align, .arr [], .int h.size]] }
  else if h.type = 1 then { partC r h with s := r.s ++ [[.str (nameS r (r.h.length - 1) h.name), .int h.align, .arr (partX r h), .int 0]] }
  else if h.type = 17 then { partC r h with g := r.g ++ [[.str (cutName (nameS r (r.h.length - 1) h.name)), .arr (grpR (partX r h) (partX r h).length 4 (partC r h).e []).1]], e := (grpR (partX r h) (partX r h).length 4 (partC r h).e []).2 }
  else if h.type = 4 then { partC r h with l := (relR h.info (partX r h).length (partX r h) (partC r h).e r.l).1, e := (relR h.info (partX r h).length (partX r h) (partC r h).e r.l).2 }
  else if h.type = 2 then symR (partX r h) (partX r h).length 24 (partC r h)
  else partC r h
def rdBig (r : Rd) : Bool := bytesIn r.b && decide (r.b.length ≤ 1048576) && decide (2 ≤ r.h.length) && decide (r.h.length ≤ 1048576) && decide (r.s.length ≤ 1073741824) && decide (r.y.length ≤ 1073741824) && decide (r.l.length ≤ 1073741824) && decide (r.g.length ≤ 1073741824)
def pRpt : List V → List V → Bool
  | _, os => match rdOf os with
    | some r => rdBig r
    | none => true
def gRpt : List V → List V → Option (V × List V)
  | [.ptr (.out 0) 0, .agg [.val (.int .i64 a), .val (.int .i64 b), .val (.int .i64 c), .val (.int .i64 d), .val (.int .i64 e), .val (.int .i64 f), .val (.int .i64 g), .val (.int .i64 h), .val (.int .i64 i), .val (.int .i64 j)]], os => match rdOf os with
    | some r => some (.tup [], (partR r ⟨a, b, c, d, e, f, g, h, i, j⟩).cells)
    | none => none
  | _, _ => none
noncomputable def le5 : List (Nat × ExtF) := (93, exB [] rdC pRpt gRpt) :: le3
noncomputable def es5 : Info := infoL Try.prog le5 ent keepOf
end Go.Proofs.Ytkcopbnaleiocaa.Ev
namespace Go.Proofs.Ytkcopbnaleiocaa.Ev
open Go
set_option linter.unusedVariables false
def rd0 (b : List (List D)) : Rd := ⟨b, [], [], [], [], [], 0⟩
def hdRow (e : List D) : Hd := ⟨rI e 0, rI e 1, rI e 2, rI e 3, rI e 4, rI e 5, rI e 6, rI e 7, rI e 8, rI e 9⟩
def partsGo : Nat → Nat → Rd → Rd
  | 0, _, r => r
  | d + 1, i, r => if i < r.h.length ∧ r.e = 0 then partsGo d (i + 1) (partR r (hdRow (r.h.getD i []))) else r
def readF (b : List (List D)) : Rd := partsGo (allF (rd0 b)).h.length 1 (allF (rd0 b))
noncomputable def readE (b : List (List D)) : Int :=
  if 65536 < b.length then 8 else if (readF b).e ≠ 0 then 8 else if wrE (readF b).s (readF b).y (readF b).l (readF b).g ≠ 0 then 8
  else if sameB (wrV (readF b).s (readF b).y (readF b).l (readF b).g) b = true then 0 else 8
noncomputable def readO (b x : List (List D)) : List (List D) := if readE b = 0 then x else []
def pRead : List V → Bool
  | [.arr [.int .u8] b] => bytesIn b && decide (b.length ≤ 1048576)
  | _ => true
noncomputable def gRead : List V → Option V
  | [.arr [.int .u8] b] => some (.tup [.agg [.arr secC (readO b (readF b).s), .arr symC (readO b (readF b).y), .arr relC (readO b (readF b).l), .arr grpC (readO b (readF b).g)], .val (.int .i64 (readE b))])
  | _ => none
def sElf : List (List D) := [[.int 127], [.int 69], [.int 76], [.int 70]]
def gIs : List V → Option V
  | [.arr [.int .u8] b] => some (.val (.bool (hasPB b sElf)))
  | _ => none
noncomputable def le6 : List (Nat × ExtF) := (37, exP nB pRead gRead) :: (38, exN nB gIs) :: le5
end Go.Proofs.Ytkcopbnaleiocaa.Ev
