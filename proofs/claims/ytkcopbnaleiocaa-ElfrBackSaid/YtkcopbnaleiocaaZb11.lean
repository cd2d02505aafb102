/- A part of the proof: what the statement needs, and nothing else. -/
import Derived.Test.YtkcopbnaleiocaaZb10
namespace Go.Proofs.Ytkcopbnaleiocaa.Ev
open Go
set_option linter.unusedVariables false
abbrev hdT : List CT := [.int .i64, .int .i64, .int .i64, .int .i64, .int .i64, .int .i64, .int .i64, .int .i64, .int .i64, .int .i64]
abbrev z0 : V := .val (.int .i64 0)
def siz (n : Int) : Bool := n == 1 || n == 2 || n == 4 || n == 8
def putOk (n k : Int) : Bool := siz k && (k == 8 || (decide (0 ≤ n) && decide (n < 256 ^ k.toNat)))
def leB (n : Int) (k : Nat) : List (List D) := (List.range k).map fun i => [.int (n / 256 ^ i % 256)]
def gSiz : List V → Option V
  | [.val (.int .i64 n)] => some (.val (.bool (siz n)))
  | _ => none
def putB (n k : Int) : List (List D) := if putOk n k then leB n k.toNat else []
def putE (n k : Int) : Int := if putOk n k then 0 else 2
def gPut : List V → Option V
  | [.val (.int .i64 n), .val (.int .i64 k)] => some (.tup [.uni u8s (putB n k), .val (.int .i64 (putE n k))])
  | _ => none
def bytesIn (xs : List (List D)) : Bool := xs.all fun e => decide (0 ≤ (e.getD 0 default).toInt) && decide ((e.getD 0 default).toInt < 256)
def leN : List (List D) → Int
  | [] => 0
  | e :: r => (e.getD 0 default).toInt + 256 * leN r
def getE (xs : List (List D)) (at_ k : Int) : Int := if !siz k then 2 else if at_ < 0 ∨ (xs.length : Int) - k < at_ then 8 else 0
def getV (xs : List (List D)) (at_ k : Int) : Int := if getE xs at_ k = 0 then IntKind.i64.wrap (leN (cut xs at_ (at_ + k))) else 0
def pGet : List V → Bool
  | [.arr [.int .u8] xs, .val (.int .i64 at_), .val (.int .i64 k)] => bytesIn xs && decide (xs.length ≤ 140737488351232)
  | _ => true
def gGet : List V → Option V
  | [.arr [.int .u8] xs, .val (.int .i64 at_), .val (.int .i64 k)] => some (.tup [.val (.int .i64 (getV xs at_ k)), .val (.int .i64 (getE xs at_ k))])
  | _ => none
def okCh (b : UInt8) : Bool := decide (33 ≤ b.toNat) && decide (b.toNat ≤ 126)
def graph (s : ByteArray) : Bool := s.data.toList.all okCh
def ixG (s : ByteArray) : Int := match s.data.toList.findIdx? (fun b => !okCh b) with | some i => (i : Int) | none => -1
def gKnd1 : List V → Option V
  | [.val (.int .i32 n)] => some (.val (.bool (decide (n < 33) || decide (n > 126))))
  | _ => none
def gIxf : List V → Option V
  | [.val (.string s), .val (.func (.func 157) ⟨[]⟩ ⟨[]⟩), .val (.bool true)] => some (.val (.int .i64 (ixG s)))
  | _ => none
def gIxf2 : List V → Option V
  | [.val (.string s), .val (.func (.func 157) ⟨[]⟩ ⟨[]⟩)] => some (.val (.int .i64 (ixG s)))
  | _ => none
def gCtn : List V → Option V
  | [.val (.string s), .val (.func (.func 157) ⟨[]⟩ ⟨[]⟩)] => some (.val (.bool (!graph s)))
  | _ => none
def hasP (s p : ByteArray) : Bool := decide (p.size ≤ s.size) && (s.extract 0 p.size == p)
def gHas : List V → Option V
  | [.val (.string s), .val (.string p)] => some (.val (.bool (hasP s p)))
  | _ => none
def cutP (s p : ByteArray) : ByteArray := if hasP s p then s.extract p.size s.size else s
def gCut : List V → Option V
  | [.val (.string s), .val (.string p)] => some (.tup [.val (.string (cutP s p)), .val (.bool (hasP s p))])
  | _ => none
def ones (n : Int) : Int := (List.range 7).foldl (fun r i => r + n / 2 ^ i % 2) 0
def pOne : List V → Bool
  | [.val (.int .u64 n)] => decide (1 ≤ n) && decide (n ≤ 64)
  | _ => true
def gOne : List V → Option V
  | [.val (.int .u64 n)] => some (.val (.int .i64 (ones n)))
  | _ => none
def sTxt : ByteArray := ⟨#[46, 116, 101, 120, 116]⟩
def sRod : ByteArray := ⟨#[46, 114, 111, 100, 97, 116, 97]⟩
def sDat : ByteArray := ⟨#[46, 100, 97, 116, 97]⟩
def sBss : ByteArray := ⟨#[46, 98, 115, 115]⟩
def isK (s p : ByteArray) : Bool := hasP s p && ((s.extract p.size s.size).size == 0 || byteAt (s.extract p.size s.size) 0 == 46)
def kindV (s : ByteArray) : Int := if s.size ≤ 32 ∧ graph s then (if isK s sTxt then 1 else if isK s sRod then 2 else if isK s sDat then 3 else if isK s sBss then 4 else 0) else 0
def kindE (s : ByteArray) : Int := if kindV s = 0 then 3 else 0
def gKnd : List V → Option V
  | [.val (.string s)] => some (.tup [.val (.int .u8 (kindV s)), .val (.int .i64 (kindE s))])
  | _ => none
def alignOk (a : Int) : Bool := decide (0 < a) && decide (a ≤ 64) && (ones a == 1)
def secOk (s : ByteArray) (a : Int) (dl : Int) (z : Int) : Bool := decide (kindV s ≠ 0) && alignOk a && (if kindV s = 4 then decide (dl = 0) && decide (0 ≤ z) && decide (z ≤ 4096) else decide (z = 0) && decide (dl ≤ 4096))
def secE (s : ByteArray) (a : Int) (dl : Int) (z : Int) : Int := if secOk s a dl z then 0 else 8
def nSec : List CK := [.ag [none, none, some u8s]]
def gSec : List V → Option V
  | [.agg [.val (.string s), .val (.int .i64 a), .arr [.int .u8] d, .val (.int .i64 z)]] => some (.val (.int .i64 (secE s a d.length z)))
  | _ => none
def fieldsV : V := .sarr 2 [[.ptr (.out 0) 0, .val (.int .i64 4)], [.ptr (.out 0) 1, .val (.int .i64 4)], [.ptr (.out 0) 2, .val (.int .i64 8)], [.ptr (.out 0) 3, .val (.int .i64 8)], [.ptr (.out 0) 4, .val (.int .i64 8)], [.ptr (.out 0) 5, .val (.int .i64 8)], [.ptr (.out 0) 6, .val (.int .i64 4)], [.ptr (.out 0) 7, .val (.int .i64 4)], [.ptr (.out 0) 8, .val (.int .i64 8)], [.ptr (.out 0) 9, .val (.int .i64 8)]]
def eFld : Ext
  | [.ptr (.out 0) 0], [[.val (.int .i64 a), .val (.int .i64 b), .val (.int .i64 c), .val (.int .i64 d), .val (.int .i64 e), .val (.int .i64 f), .val (.int .i64 g), .val (.int .i64 h), .val (.int .i64 i), .val (.int .i64 j)]] => some (fieldsV, [[.val (.int .i64 a), .val (.int .i64 b), .val (.int .i64 c), .val (.int .i64 d), .val (.int .i64 e), .val (.int .i64 f), .val (.int .i64 g), .val (.int .i64 h), .val (.int .i64 i), .val (.int .i64 j)]])
  | _, _ => none
structure Hd where
  name : Int
  type : Int
  flags : Int
  addr : Int
  offset : Int
  size : Int
  link : Int
  info : Int
  align : Int
  entry : Int
def Hd.v (h : Hd) : V := .agg [.val (.int .i64 h.name), .val (.int .i64 h.type), .val (.int .i64 h.flags), .val (.int .i64 h.addr), .val (.int .i64 h.offset), .val (.int .i64 h.size), .val (.int .i64 h.link), .val (.int .i64 h.info), .val (.int .i64 h.align), .val (.int .i64 h.entry)]
def f4 (n : Int) : Bool := decide (0 ≤ n) && decide (n < 4294967296)
def f8 (n : Int) : Bool := decide (0 ≤ n)
def Hd.ok (h : Hd) : Bool := f4 h.name && f4 h.type && f8 h.flags && f8 h.addr && f8 h.offset && f8 h.size && f4 h.link && f4 h.info && f8 h.align && f8 h.entry
def Hd.b (h : Hd) : List (List D) := leB h.name 4 ++ leB h.type 4 ++ leB h.flags 8 ++ leB h.addr 8 ++ leB h.offset 8 ++ leB h.size 8 ++ leB h.link 4 ++ leB h.info 4 ++ leB h.align 8 ++ leB h.entry 8
def hdW (h : Hd) : V := .tup [.own u8s (if h.ok then h.b else []), .val (.int .i64 (if h.ok then 0 else 2))]
def gHdW : List V → Option V
  | [.agg [.val (.int .i64 a), .val (.int .i64 b), .val (.int .i64 c), .val (.int .i64 d), .val (.int .i64 e), .val (.int .i64 f), .val (.int .i64 g), .val (.int .i64 h), .val (.int .i64 i), .val (.int .i64 j)]] => some (hdW ⟨a, b, c, d, e, f, g, h, i, j⟩)
  | _ => none
def hdN (xs : List (List D)) : Hd := ⟨getV xs 0 4, getV xs 4 4, getV xs 8 8, getV xs 16 8, getV xs 24 8, getV xs 32 8, getV xs 40 4, getV xs 44 4, getV xs 48 8, getV xs 56 8⟩
def hd0 : Hd := ⟨0, 0, 0, 0, 0, 0, 0, 0, 0, 0⟩
def Hd.ok8 (h : Hd) : Bool := decide (0 ≤ h.name) && decide (0 ≤ h.type) && decide (0 ≤ h.flags) && decide (0 ≤ h.addr) && decide (0 ≤ h.offset) && decide (0 ≤ h.size) && decide (0 ≤ h.link) && decide (0 ≤ h.info) && decide (0 ≤ h.align) && decide (0 ≤ h.entry)
def hdRok (xs : List (List D)) : Bool := decide (xs.length = 64) && (hdN xs).ok8
def hdRV (xs : List (List D)) : Hd := if hdRok xs then hdN xs else hd0
def hdRE (xs : List (List D)) : Int := if xs.length = 64 then (if (hdN xs).ok8 then 0 else 8) else 3
def pHdR : List V → Bool
  | [.arr [.int .u8] xs] => bytesIn xs
  | _ => true
def gHdR : List V → Option V
  | [.arr [.int .u8] xs] => some (.tup [(hdRV xs).v, .val (.int .i64 (hdRE xs))])
  | _ => none
def ent (f : Nat) : Option (List V → Option Value) := if f = 180 ∨ f = 187 then some indexByteE else none
def nB : List CK := [.sl u8s]
def la1 : List (Nat × ExtF) := [(67, exN [] gSiz), (157, exN [] gKnd1), (196, exN [] gHas), (160, exP [] pOne gOne), (68, ex eFld)]
def la2 : List (Nat × ExtF) := (127, exN [] gPut) :: (27, exP nB pGet gGet) :: (195, exN [] gIxf) :: (183, exN [] gCut) :: (118, exP [] pOne gOne) :: la1
def la3 : List (Nat × ExtF) := (182, exN [] gIxf2) :: (158, exN [] gCut) :: (65, exN [] gHdW) :: (28, exP nB pHdR gHdR) :: la2
def la4 : List (Nat × ExtF) := (156, exN [] gCtn) :: la3
def la5 : List (Nat × ExtF) := (117, exN [] gKnd) :: la4
def la6 : List (Nat × ExtF) := (55, exN nSec gSec) :: la5
noncomputable def el0 : Info := infoL Try.prog [] ent keepOf
noncomputable def el1 : Info := infoL Try.prog la1 ent keepOf
noncomputable def el2 : Info := infoL Try.prog la2 ent keepOf
noncomputable def el3 : Info := infoL Try.prog la3 ent keepOf
noncomputable def el4 : Info := infoL Try.prog la4 ent keepOf
noncomputable def el5 : Info := infoL Try.prog la5 ent keepOf
noncomputable def el6 : Info := infoL Try.prog la6 ent keepOf
end Go.Proofs.Ytkcopbnaleiocaa.Ev
namespace Go.Proofs.Ytkcopbnaleiocaa.Ev
open Go Go.Shelf
set_option linter.unusedVariables false
set_option linter.unusedSimpArgs false
def growRen : Ren := ⟨fun n => match n with | 4 => 167 | n => n, fun n => match n with | 0 => 0 | 3 => 3 | 4 => 4 | 9 => 9 | 20 => 20 | 22 => 26 | 25 => 5 | n => n, fun n => n⟩
theorem growLay : Lays8.n4 Try.prog growRen where
  mixed := by kernel_rfl
  f4 := ⟨"slices.Grow[[]byte,byte]", by decide, by kernel_rfl⟩
  t0 := by kernel_rfl
  a0 := fun w => Try.isAgg0 w
  z0 := fun w => Try.sizeOf0 w
  v0 := fun w => Try.zeroValue0 w
  t3 := by kernel_rfl
  a3 := fun w => Try.isAgg3 w
  z3 := fun w => Try.sizeOf3 w
  v3 := fun w => Try.zeroValue3 w
  t4 := by kernel_rfl
  a4 := fun w => Try.isAgg4 w
  z4 := fun w => Try.sizeOf4 w
  v4 := fun w => Try.zeroValue4 w
  t9 := by kernel_rfl
  a9 := fun w => Try.isAgg9 w
  z9 := fun w => Try.sizeOf9 w
  v9 := fun w => Try.zeroValue9 w
  t20 := by kernel_rfl
  a20 := fun w => Try.isAgg20 w
  z20 := fun w => Try.sizeOf20 w
  v20 := fun w => Try.zeroValue20 w
  t22 := by kernel_rfl
  a22 := fun w => Try.isAgg26 w
  z22 := fun w => Try.sizeOf26 w
  v22 := fun w => Try.zeroValue26 w
theorem under_ret {s r : Slot} (h : Slot.under s r) : r = .ret → s = .ret := by
  induction h with
  | refl s => exact id
  | sub s r i _ ih => intro e; have := ih e; cases this
def eGrow : ExtF where
  pre := fun vs _ => match vs with | [.val (.slice none 0 0), .val (.int .i64 n)] => decide (0 ≤ n) && decide (n ≤ 70368744177664) | _ => false
  ans := fun vs outs => match vs, outs with
    | [.val (.slice none 0 0), .val (.int .i64 n)], [] => some (.uni [.int .u8] [], [])
    | _, _ => none
theorem con_grow : ∀ vs outs r, eGrow.pre vs outs = true → eGrow.ans vs outs = some r → Contract Try.prog 167 vs outs r := by
  intro vs outs r hp h
  unfold eGrow at h hp
  simp only at h hp
  split at h
  case h_2 => cases h
  rename_i n
  cases h
  simp only [Bool.and_eq_true, decide_eq_true_eq] at hp
  obtain ⟨k, rfl⟩ : ∃ k : Nat, n = (k : Int) := ⟨n.toNat, by omega⟩
  intro g w cargs hH
  obtain ⟨c1, a1, a2⟩ := hH.args 0 _ rfl
  obtain ⟨c2, b1, b2⟩ := hH.args 1 _ rfl
  have e1 := val_inv a2
  have e2 := val_inv b2
  subst e1; subst e2
  have hs := hH.size
  have hc : cargs = #[.slice none 0 0, .int .i64 (k : Int)] := by
    apply Array.ext
    · simpa using hs
    · intro i h1 h2
      match i with
      | 0 => rw [Array.getElem?_eq_getElem h1] at a1; simpa using a1
      | 1 => rw [Array.getElem?_eq_getElem h1] at b1; simpa using b1
      | _ + 2 => simp at hs; omega
  subst hc
  by_cases hk : k = 0
  · subst hk
    refine (Any8.slices_Grow_room growLay none 0 0 0 w (by omega) (by omega) (by omega) (by omega)).mono fun e w' ⟨he, hw⟩ => ?_
    subst hw
    exact ⟨_, g, he, .uni _ _ _ _ (.inl ⟨rfl, rfl⟩), trivial, rfl, fun i cs hi => by simp at hi, Evol.refl g w', hH.fresh, hH.nones⟩
  · refine (Any8.slices_Grow_grow growLay Try.t5 (.int .u8 0) (by kernel_rfl) (by kernel_rfl) (by decide +kernel) none 0 0 k [] w (by omega) (by omega) ?_ (by omega) (by simp) (fun _ => rfl) (fun a ha => by cases ha)).mono fun e w' ⟨he, hw⟩ => ?_
    · have : Try.t5.bytes = 1 := by kernel_rfl
      rw [this]; omega
    · subst hw
      have hge := grownCap_ge w (0 + k) 0 (growRen.t 25)
      have hle := grownCap_le_maxLen w (0 + k) 0 (growRen.t 25) (by simp only [maxLen]; omega)
      generalize hcap : grownCap w (0 + k) 0 (growRen.t 25) = cap at he hge hle ⊢
      have hst : ∀ b q c, g.stable b q → w.cell? (pl b q) = some c → (g.set w.heap.size (.arr .ret 0)).stable b q ∧ (w.drew.alloc (.cells ((#[] : Array Value) ++ Builtin.zeroCells (Value.int .u8 0).cells (0 + k - 0) ++ Builtin.zeroCells (Value.int .u8 0).cells (cap - (0 + k))) (growRen.t 25))).cell? (pl b q) = some c := by
        intro b q c hs hc
        have hb : b ≠ w.heap.size := fun e => by subst e; have := cell_lt hc; omega
        exact ⟨by unfold Gh.stable Gh.set; simp only [hb, if_false]; exact hs, cell_push w.drew _ hc⟩
      refine ⟨_, g.set w.heap.size (.arr .ret 0), he, .uni _ _ _ _ (.inr ⟨w.heap.size, cap, _, (_, (0, 0)), rfl, by simp, hle, ?_, heap_push_new w.drew _, ⟨?_, unfz_none _⟩, fun i j ct hi => by simp at hi⟩), trivial, rfl, fun i cs hi => by simp at hi, ?_, ?_, ?_⟩
      · simp [Gh.set]
      · simp [size_zeroCells, Value.cells]; omega
      · refine ⟨rfl, rfl, rfl, by simp only [World.alloc, Array.size_push]; exact Nat.le_succ _, fun b hb ho => ?_, fun b l ho => ?_, fun b s l ho => ?_, fun b k ho => ?_, fun i b hb => hb⟩
        · exact ⟨heap_push_old w.drew _ hb, by simp only [Gh.set]; rw [if_neg (by omega)]; exact ho⟩
        · have hb : b < w.heap.size := Nat.lt_of_not_le fun hle' => by rw [hH.fresh b hle'] at ho; cases ho
          exact ⟨heap_push_old w.drew _ hb, by simp only [Gh.set]; rw [if_neg (by omega)]; exact ho⟩
        · have hb : b < w.heap.size := Nat.lt_of_not_le fun hle' => by rw [hH.fresh b hle'] at ho; cases ho
          exact ⟨fun o c _ hc => cell_push w.drew _ hc, .inr (.inr ⟨s, l, by simp only [Gh.set]; rw [if_neg (by omega)]; exact ho, Nat.le_refl _⟩)⟩
        · have hb : b < w.heap.size := Nat.lt_of_not_le fun hle' => by rw [hH.fresh b hle'] at ho; cases ho
          simp only [Gh.set]; rw [if_neg (by omega)]; exact ho
      · intro b hb
        have hb : w.drew.heap.size + 1 ≤ b := by simpa only [World.alloc, Array.size_push] using hb
        have hb : w.heap.size + 1 ≤ b := hb
        simp only [Gh.set]
        rw [if_neg (by omega)]
        exact hH.fresh b (by omega)
      · intro b s l hu ho
        simp only [Gh.set] at ho
        split at ho
        · cases ho; have := under_ret hu rfl; cases this
        · exact hH.nones b s l hu ho
end Go.Proofs.Ytkcopbnaleiocaa.Ev
namespace Go.Proofs.Ytkcopbnaleiocaa.Ev
open Go
set_option linter.unusedVariables false
abbrev strs : List CT := [.str]
abbrev secC : List CT := [.str, .int .i64, .arr u8s, .int .i64]
abbrev symC : List CT := [.str, .int .u8, .bool, .int .i64, .int .i64, .int .i64]
abbrev relC : List CT := [.int .i64, .int .i64, .int .u8, .int .i64, .int .i64]
abbrev grpC : List CT := [.str, .arr i64s]
abbrev hdC : List CT := List.replicate 10 (.int .i64)
def catA (xs : List (List D)) : List (List D) := (xs.map fun e => (e.getD 0 default).toArr).flatten
def pCat : List V → Bool
  | [.arr [.arr [.int .u8]] xs] => decide ((catA xs).length ≤ 4294967296) && decide (xs.length ≤ 4294967296)
  | _ => true
def gCat : List V → Option V
  | [.arr [.arr [.int .u8]] xs] => some (.uni u8s (catA xs))
  | _ => none
def zeros (n : Nat) : List (List D) := List.replicate n [D.int 0]
def padN (l m : Int) : Int := (m - l % m) % m
def padOk (m : Int) : Bool := decide (1 ≤ m) && decide (m ≤ 4096)
def padB (xs : List (List D)) (m : Int) : List (List D) := if padOk m then xs ++ zeros (padN xs.length m).toNat else []
def pPad : List V → Bool
  | [.arr [.int .u8] xs, .val (.int .i64 m)] => decide (xs.length ≤ 16777216)
  | _ => true
def gPad : List V → Option V
  | [.arr [.int .u8] xs, .val (.int .i64 m)] => some (.tup [.uni u8s (padB xs m), .val (.int .i64 (if padOk m then 0 else 2))])
  | _ => none
def inB (n a b : Int) : Bool := decide (a ≤ n) && decide (n ≤ b)
def gInn : List V → Option V
  | [.val (.int .i64 n), .val (.int .i64 a), .val (.int .i64 b)] => some (.val (.bool (inB n a b)))
  | _ => none
def namedB (s : ByteArray) : Bool := decide (0 < s.size) && decide (s.size ≤ 32) && graph s
def gNamed : List V → Option V
  | [.val (.string s)] => some (.val (.bool (namedB s)))
  | _ => none
def standsB (b : Int) (h : Bool) (w v z n : Int) : Bool :=
  if 2 < b ∨ (h = true ∧ b = 0) then false
  else if w = 0 then !(b == 0) && v == 0 && z == 0
  else if w = -1 then inB v (-2147483648) 4294967295 && z == 0
  else if w = -2 then alignOk v && inB z 1 4096 && b == 1
  else inB w 1 n && inB v 0 4096 && inB z 0 4096
def gStands : List V → Option V
  | [.agg [.val (.string s), .val (.int .u8 b), .val (.bool h), .val (.int .i64 w), .val (.int .i64 v), .val (.int .i64 z)], .val (.int .i64 n)] => some (.val (.bool (standsB b h w v z n)))
  | _ => none
def symE (s : ByteArray) (b : Int) (h : Bool) (w v z n : Int) : Int := if !inB n 0 16 then 2 else if namedB s && standsB b h w v z n then 0 else 8
def gSym : List V → Option V
  | [.agg [.val (.string s), .val (.int .u8 b), .val (.bool h), .val (.int .i64 w), .val (.int .i64 v), .val (.int .i64 z)], .val (.int .i64 n)] => some (.val (.int .i64 (symE s b h w v z n)))
  | _ => none
def whereN (w : Int) : Int := if w < 0 then 65520 - w else w
def symB (at_ b : Int) (h : Bool) (w v z : Int) : List (List D) := leB at_ 4 ++ [[.int (b * 16)], [.int (if h then 2 else 0)]] ++ leB (whereN w) 2 ++ leB v 8 ++ leB z 8
def symWok (s : ByteArray) (b : Int) (h : Bool) (w v z at_ : Int) : Bool := (symE s b h w v z 16 == 0) && inB at_ 0 65535
def symWE (s : ByteArray) (b : Int) (h : Bool) (w v z at_ : Int) : Int := if symE s b h w v z 16 = 0 then (if inB at_ 0 65535 then 0 else 2) else 8
def gSymW : List V → Option V
  | [.agg [.val (.string s), .val (.int .u8 b), .val (.bool h), .val (.int .i64 w), .val (.int .i64 v), .val (.int .i64 z)], .val (.int .i64 at_)] => some (.tup [.uni u8s (if symWok s b h w v z at_ then symB at_ b h w v z else []), .val (.int .i64 (symWE s b h w v z at_))])
  | _ => none
def pSymW : List V → Bool
  | [.agg [.val (.string s), .val (.int .u8 b), .val (.bool h), .val (.int .i64 w), .val (.int .i64 v), .val (.int .i64 z)], .val (.int .i64 at_)] => decide (0 ≤ b)
  | _ => true
def fieldN (k : Int) : Int :=
  if k = 33 ∨ k = 37 then 1 else if k = 34 ∨ k = 38 ∨ k = 44 ∨ k = 45 then 2
  else if k = 2 ∨ k = 36 ∨ k = 40 ∨ k = 18 then 8
  else if k = 1 ∨ k = 16 ∨ k = 17 ∨ k = 23 ∨ k = 24 ∨ k = 25 ∨ k = 26 ∨ k = 27 ∨ k = 28 ∨ k = 35 ∨ k = 39 then 4 else 0
def fieldE (k : Int) : Int := if fieldN k = 0 ∧ k ≠ 43 ∧ k ≠ 51 then 2 else 0
def gField : List V → Option V
  | [.val (.int .u8 k)] => some (.tup [.val (.int .i64 (fieldN k)), .val (.int .i64 (fieldE k))])
  | _ => none
def isData (k : Int) : Bool := k == 1 || k == 2 || k == 33 || k == 34 || k == 35 || k == 36 || k == 37 || k == 38 || k == 39 || k == 40
def isAlone (k : Int) : Bool := k == 43 || k == 51
def isNought (k : Int) : Bool := k == 51 || k == 24 || k == 25
def hasB (s k : Int) : Bool := if s = 2260595906707456 then isAlone k else if s = 2251799864016896 then isNought k else isData k
def pHasT : List V → Bool
  | [.val (.int .u64 s), .val (.int .u8 k)] => (s == 2260595906707456 || s == 2251799864016896 || s == 2190433320966) && decide (0 ≤ k) && decide (k ≤ 255)
  | _ => true
def gHasT : List V → Option V
  | [.val (.int .u64 s), .val (.int .u8 k)] => some (.val (.bool (hasB s k)))
  | _ => none
def ixB (l : List UInt8) (c : Int) : Int := Lib.indexByte l c.toNat.toUInt8
def rowB (xs : List (List D)) : List UInt8 := Lib.bytesOf (bytesOfRow xs)
def gIxS : List V → Option V
  | [.val (.string s), .val (.int .u8 c)] => some (.val (.int .i64 (ixB s.data.toList c)))
  | _ => none
def gIxB : List V → Option V
  | [.arr [.int .u8] xs, .val (.int .u8 c)] => some (.val (.int .i64 (ixB (rowB xs) c)))
  | _ => none
def chkR (xs : List (List D)) : Int := if xs.length = 0 ∨ 65536 < xs.length ∨ cellI xs 0 0 ≠ 0 ∨ cellI xs (xs.length - 1) 0 ≠ 0 then 8 else 0
def gChk : List V → Option V
  | [.arr [.int .u8] xs] => some (.val (.int .i64 (chkR xs)))
  | _ => none
def getS (xs : List (List D)) (at_ : Int) : ByteArray := if chkR xs ≠ 0 ∨ at_ < 0 ∨ (xs.length : Int) ≤ at_ then .empty else rowBytes (cut xs at_ (at_ + ixB (rowB (cut xs at_ xs.length)) 0))
def getSE (xs : List (List D)) (at_ : Int) : Int := if chkR xs ≠ 0 ∨ at_ < 0 ∨ (xs.length : Int) ≤ at_ then 8 else 0
def gGetS : List V → Option V
  | [.arr [.int .u8] xs, .val (.int .i64 at_)] => some (.tup [.val (.string (getS xs at_)), .val (.int .i64 (getSE xs at_))])
  | _ => none
structure Bld where
  t : List (List D)
  p : List (List D)
  e : Int
def bldGo : List ByteArray → List (List D) → List (List D) → List (List D) → Bld
  | [], t, m, p => if 65536 < t.length then ⟨[], [], 9⟩ else ⟨t, p, 0⟩
  | s :: r, t, m, p => if 64 < s.size ∨ 0 ≤ ixB s.data.toList 0 then ⟨[], [], 3⟩
    else if hasD .str (.string s) m then bldGo r t m (p ++ [[.int (lookD .str (.string s) (.int 0) m).toInt]])
    else bldGo r (t ++ bytesRow s ++ [[.int 0]]) (setRow .str (.string s) [.str s, .int t.length] m) (p ++ [[.int t.length]])
def namesOf (xs : List (List D)) : List ByteArray := xs.map fun e => (e.getD 0 default).toStr
def bldR (xs : List (List D)) : Bld := if 1024 < xs.length then ⟨[], [], 4⟩ else bldGo (namesOf xs) [[.int 0]] [[.str .empty, .int 0]] []
def gBld : List V → Option V
  | [.arr [.str] xs] => some (.tup [.own u8s (bldR xs).t, .own i64s (bldR xs).p, .val (.int .i64 (bldR xs).e)])
  | _ => none
def numsB (k : Int) (l : List (List D)) : List (List D) := (l.map fun e => putB (e.getD 0 default).toInt k).flatten
def pNums : List V → Bool
  | [.own [.int .u8] xs, .val (.int .i64 k), .arr [.int .i64] l] => decide (xs.length ≤ 16777216) && decide (l.length ≤ 1048576)
  | [.val (.slice none 0 0), .val (.int .i64 k), .arr [.int .i64] l] => decide (l.length ≤ 1048576)
  | _ => true
def gNums : List V → Option V
  | [.own [.int .u8] xs, .val (.int .i64 k), .arr [.int .i64] l] => some (.own u8s (xs ++ numsB k l))
  | [.val (.slice none 0 0), .val (.int .i64 k), .arr [.int .i64] l] => some (.own u8s (numsB k l))
  | _ => none
def nNums : List CK := [.no, .no, .sl i64s]
def gSize : List V → Option V
  | [.agg [.val (.string s), .val (.int .i64 a), .arr [.int .u8] d, .val (.int .i64 z)]] => some (.val (.int .i64 (IntKind.wrap .i64 (d.length + z))))
  | _ => none
def lb1 : List (Nat × ExtF) := (167, eGrow) :: (114, exN [] gInn) :: (115, exN [] gNamed) :: (184, exN [] gField) :: (185, exP [] pHasT gHasT) :: (166, exN [] gIxS) :: (150, exN nB gIxB) :: (149, exN nB gChk) :: (124, exP nNums pNums gNums) :: (119, exN nSec gSize) :: la6
def lb2 : List (Nat × ExtF) := (126, exP [.sl [.arr u8s]] pCat gCat) :: (116, exN [] gStands) :: (125, exN [] gIxS) :: (110, exN nB gGetS) :: lb1
def lb3 : List (Nat × ExtF) := (64, exP nB pPad gPad) :: (51, exN [] gSym) :: (61, exN [.sl strs] gBld) :: lb2
def lb4 : List (Nat × ExtF) := (97, exP [] pSymW gSymW) :: lb3
noncomputable def em1 : Info := infoL Try.prog lb1 ent keepOf
noncomputable def em2 : Info := infoL Try.prog lb2 ent keepOf
noncomputable def em3 : Info := infoL Try.prog lb3 ent keepOf
noncomputable def em4 : Info := infoL Try.prog lb4 ent keepOf
end Go.Proofs.Ytkcopbnaleiocaa.Ev
namespace Go.Proofs.Ytkcopbnaleiocaa.Ev
open Go
set_option linter.unusedVariables false
structure Fl where
  b : List (List D)
  heads : List (List D)
  names : List (List D)
def Hd.row (h : Hd) : List D := [.int h.name, .int h.type, .int h.flags, .int h.addr, .int h.offset, .int h.size, .int h.link, .int h.info, .int h.align, .int h.entry]
def partF (f : Fl) (name : ByteArray) (h : Hd) (data : List (List D)) : Fl :=
  ⟨padB f.b h.align ++ data, f.heads ++ [({ h with offset := (padB f.b h.align).length, size := if h.type = 8 then h.size else data.length } : Hd).row], f.names ++ [[.str name]]⟩
def Fl.cells (f : Fl) : List V := [.arr u8s f.b, .own hdC f.heads, .own strs f.names]
inductive BK where
  | no
  | own (cs : List CT)
  | arr (cs : List CT)
def nilO : BK → V → V
  | .own cs, .val (.slice none 0 0) => .own cs []
  | .arr cs, .val (.slice none 0 0) => .arr cs []
  | .arr _, .own c xs => .arr c xs
  | _, v => v
def nilOs : List BK → List V → List V
  | k :: ks, v :: vs => nilO k v :: nilOs ks vs
  | _, vs => vs
theorem nilO_rx (k : BK) (v : V) : Rx1 v (nilO k v) := by
  unfold nilO
  split
  · exact .nilOwn _
  · exact .nilArr _
  · exact .ownArr _ _
  · exact .refl _
theorem nilOs_length : ∀ (ks : List BK) (vs : List V), (nilOs ks vs).length = vs.length
  | [], _ => by simp [nilOs]
  | _ :: _, [] => by simp [nilOs]
  | _ :: ks, _ :: vs => by simp [nilOs, nilOs_length ks vs]
theorem nilOs_get : ∀ (ks : List BK) (vs : List V) (i : Nat) (v' : V), (nilOs ks vs)[i]? = some v' → ∃ v, vs[i]? = some v ∧ Rx1 v v'
  | [], vs, i, v', h => ⟨v', by simpa [nilOs] using h, .refl _⟩
  | k :: ks, [], i, v', h => by simp [nilOs] at h
  | k :: ks, v :: vs, 0, v', h => by
    simp only [nilOs, List.getElem?_cons_zero, Option.some.injEq] at h
    subst h
    exact ⟨v, rfl, nilO_rx k v⟩
  | k :: ks, v :: vs, i + 1, v', h => by
    simp only [nilOs, List.getElem?_cons_succ] at h
    obtain ⟨u, hu, hx⟩ := nilOs_get ks vs i v' h
    exact ⟨u, by simpa using hu, hx⟩
theorem nilOs_cell {g : Gh} {w : World} {k : Key} {os : List V} (cs : List BK) (h : CellRel g w k os) : CellRel g w k (nilOs cs os) := by
  obtain ⟨b, cur, e, h1, h2, h3, h4, h5, h6⟩ := h
  refine ⟨b, cur, e, h1, h2, h3, by rw [nilOs_length]; exact h4, fun i v' hv' => ?_, fun i v' c hv' hc => ?_⟩
  · obtain ⟨v, hv, hx⟩ := nilOs_get cs os i v' hv'
    exact hx.cellP (h5 i v hv)
  · obtain ⟨v, hv, hx⟩ := nilOs_get cs os i v' hv'
    exact hx.rel (h6 i v c hv hc)
theorem Contract.normO {P : Program} {f : Nat} {cs : List BK} {vs os : List V} {r : R} (h : Contract P f vs [nilOs cs os] r) : Contract P f vs [os] r := by
  intro g w cargs hh
  refine h g w cargs ⟨hh.size, hh.args, fun i u hi => ?_, hh.fresh, hh.loc, hh.mp, hh.mn, hh.out, hh.nones⟩
  cases i with
  | zero =>
    cases hi
    exact .ofCell rfl (nilOs_cell cs ((hh.boxes 0 os rfl).cell rfl))
  | succ i => cases hi
theorem Contract.outO {P : Program} {f : Nat} {cs : List BK} {vs os o : List V} {v : V} (h : Contract P f vs [os] (v, [o])) : Contract P f vs [os] (v, [nilOs cs o]) := by
  intro g w cargs hh
  refine (h g w cargs hh).mono ?_
  rintro e w' ⟨c, g', h1, h2, h3, h4, h5, h6⟩
  refine ⟨c, g', h1, h2, h3, h4, fun i u hi => ?_, h6⟩
  cases i with
  | zero =>
    cases hi
    obtain ⟨b1, b2⟩ := h5 0 o rfl
    refine ⟨.ofCell rfl (nilOs_cell cs (b1.cell rfl)), fun u hu => ?_⟩
    obtain ⟨j, hj, rfl⟩ := List.getElem_of_mem hu
    obtain ⟨u', hu', hx⟩ := nilOs_get cs o j _ (List.getElem?_eq_getElem hj)
    exact hx.flat (b2 u' (List.mem_of_getElem? hu'))
  | succ i => cases hi
def exB (ks : List CK) (cs : List BK) (p : List V → List V → Bool) (g : List V → List V → Option (V × List V)) : ExtF :=
  { pre := fun vs outs => match outs with | [os] => p (normArgs ks vs) (nilOs cs os) | _ => true, ans := fun vs outs => match outs with | [os] => (g (normArgs ks vs) (nilOs cs os)).map fun r => (r.1, [r.2]) | _ => none }
theorem ExtAll.box {P : Program} {l : List (Nat × ExtF)} {f : Nat} {ks : List CK} {cs : List BK} {p : List V → List V → Bool} {g : List V → List V → Option (V × List V)} (h : ∀ (vs os : List V) (r : V × List V), p vs os = true → g vs os = some r → Contract P f vs [os] (r.1, [r.2])) (hl : ExtAll P l) : ExtAll P ((f, exB ks cs p g) :: l) :=
  .cons (fun vs outs r h1 h2 => by
    simp only [exB] at h2 h1
    split at h2
    · obtain ⟨v, hv, rfl⟩ := Option.map_eq_some_iff.1 h2
      exact Contract.normO (Contract.norm (h _ _ _ h1 hv))
    · cases h2) hl
def flOf : List V → Option Fl
  | [.arr [.int .u8] b, .own hc h, .own [.str] n] => if sameCTs hc hdC = true then some ⟨b, h, n⟩ else none
  | _ => none
def flOk (f : Fl) : Bool := decide (f.b.length ≤ 8388608) && decide (f.heads.length ≤ 65536) && decide (f.names.length ≤ 65536)
def nPart : List CK := [.no, .no, .no, .sl u8s]
def flC : List BK := [.arr u8s, .own hdC, .own strs]
def pPart : List V → List V → Bool
  | [_, _, _, .arr [.int .u8] x], cs => match flOf cs with | some f => flOk f && decide (x.length ≤ 1048576) | none => true
  | _, _ => true
def gPart : List V → List V → Option (V × List V)
  | [.ptr (.out 0) 0, .val (.string nm), .agg [.val (.int .i64 a), .val (.int .i64 b), .val (.int .i64 c), .val (.int .i64 d), .val (.int .i64 e), .val (.int .i64 f), .val (.int .i64 g), .val (.int .i64 h), .val (.int .i64 i), .val (.int .i64 j)], .arr [.int .u8] x], cs =>
      match flOf cs with
      | some fl => some (.tup [], (partF fl nm ⟨a, b, c, d, e, f, g, h, i, j⟩ x).cells)
      | none => none
  | _, _ => none
def firstB (place many : Int) : List (List D) := ([127, 69, 76, 70, 2, 1, 1, 0, 0, 0, 0, 0, 0, 0, 0, 0, 1, 0, 243, 0, 1, 0, 0, 0, 0, 0, 0, 0, 0, 0, 0, 0, 0, 0, 0, 0, 0, 0, 0, 0].map fun n => [D.int n]) ++ putB place 8 ++ ([1, 0, 0, 0, 64, 0, 0, 0, 0, 0, 64, 0].map fun n => [D.int n]) ++ putB many 2 ++ putB (IntKind.wrap .i64 (many - 1)) 2
def gFst : List V → Option V
  | [.val (.int .i64 p), .val (.int .i64 m)] => some (.own u8s (firstB p m))
  | _ => none
def gClnS : List V → Option V
  | [.arr [.str] xs] => some (.own strs xs)
  | _ => none
def pClnS : List V → Bool
  | [.arr [.str] xs] => decide (0 < xs.length) && decide (xs.length ≤ 1048576)
  | _ => true
def relWok (b k c d : Int) : Bool := (fieldE k == 0) && decide (0 ≤ b) && decide (b ≤ 4096) && decide (-1 ≤ c) && decide (c < 64) && decide (-2147483648 ≤ d) && decide (d ≤ 4294967295)
def relB (b k c d : Int) : List (List D) := putB b 8 ++ putB (IntKind.wrap .i64 k) 4 ++ putB (IntKind.wrap .i64 (c + 1)) 4 ++ putB d 8
def gRelW : List V → Option V
  | [.agg [.val (.int .i64 a), .val (.int .i64 b), .val (.int .u8 k), .val (.int .i64 c), .val (.int .i64 d)]] => some (.tup [.own u8s (if relWok b k c d then relB b k c d else []), .val (.int .i64 (if relWok b k c d then 0 else 8))])
  | _ => none
def spanTo (b k d : Int) : Int := IntKind.wrap .i64 (b + if k = 43 then d else fieldN k)
def gSpn : List V → Option V
  | [.agg [.val (.int .i64 a), .val (.int .i64 b), .val (.int .u8 k), .val (.int .i64 c), .val (.int .i64 d)]] => some (.tup [.val (.int .i64 b), .val (.int .i64 (spanTo b k d))])
  | _ => none
def sumsB (k l : Int) : Bool := decide ((if l < k then l else k) ≥ 33) && decide ((if l < k then l else k) ≤ 36) && ((if k < l then l else k) == IntKind.wrap .u8 (IntKind.wrap .u8 ((if l < k then l else k) + 37) - 33))
def gSums : List V → Option V
  | [.agg [.val (.int .i64 a), .val (.int .i64 b), .val (.int .u8 k), .val (.int .i64 c), .val (.int .i64 d)], .agg [.val (.int .i64 a'), .val (.int .i64 b'), .val (.int .u8 k'), .val (.int .i64 c'), .val (.int .i64 d')]] => some (.val (.bool (sumsB k k')))
  | _ => none
def rI (e : List D) (j : Nat) : Int := (e.getD j default).toInt
def rS (e : List D) (j : Nat) : ByteArray := (e.getD j default).toStr
def rB (e : List D) (j : Nat) : Bool := (e.getD j default).toBool
def rA (e : List D) (j : Nat) : List (List D) := (e.getD j default).toArr
def count (k : CT) (v : Value) (d : D) (m : List (List D)) : List (List D) := setRow k v [d, .int (IntKind.wrap .i64 ((lookD k v (.int 0) m).toInt + 1))] m
def twice (k : CT) (v : Value) (d : D) (m : List (List D)) : Bool := decide ((lookD k v (.int 0) (count k v d m)).toInt > 1)
def nObj : List CK := [.ag [some secC, some symC, some relC, some grpC]]
def secLen (e : List D) : Int := IntKind.wrap .i64 ((rA e 2).length + rI e 3)
def symIn (S : List (List D)) (e : List D) : Bool := (symE (rS e 0) (rI e 1) (rB e 2) (rI e 3) (rI e 4) (rI e 5) S.length == 0) && !(decide (rI e 3 > 0) && decide (IntKind.wrap .i64 (rI e 4 + rI e 5) > secLen (S.getD (IntKind.wrap .i64 (rI e 3 - 1)).toNat [])))
def symsGo (S : List (List D)) : List (List D) → Bool → List (List D) → Bool
  | [], _, _ => true
  | e :: t, gl, m => if symIn S e = false then false else if rI e 1 = 0 then (if gl = true then false else symsGo S t gl m) else if twice .str (.string (rS e 0)) (.str (rS e 0)) m = true then false else symsGo S t true (count .str (.string (rS e 0)) (.str (rS e 0)) m)
def symsB (S Y : List (List D)) : Bool := symsGo S Y false [] && decide (Y.length ≤ 64)
def pSyms : List V → Bool
  | [.agg [.arr _ s, .arr _ y, .arr _ r, .arr _ g]] => decide (y.length ≤ 1048576)
  | _ => true
def gSyms : List V → Option V
  | [.agg [.arr [.str, .int .i64, .arr [.int .u8], .int .i64] s, .arr [.str, .int .u8, .bool, .int .i64, .int .i64, .int .i64] y, .arr [.int .i64, .int .i64, .int .u8, .int .i64, .int .i64] r, .arr [.str, .arr [.int .i64]] g]] => some (.val (.bool (symsB s y)))
  | _ => none
def grpIn (n : Int) : List (List D) → Int → List (List D) → Option (List (List D))
  | [], _, tk => some tk
  | e :: t, last, tk => if rI e 0 ≤ last then none else if rI e 0 > n then none else if twice (.int .i64) (.int .i64 (rI e 0)) (.int (rI e 0)) tk = true then none else grpIn n t (rI e 0) (count (.int .i64) (.int .i64 (rI e 0)) (.int (rI e 0)) tk)
def grpsGo (n : Int) : List (List D) → List (List D) → List (List D) → Bool
  | [], _, _ => true
  | e :: t, m, tk => if symE (rS e 0) 1 false 0 0 0 0 ≠ 0 then false else if twice .str (.string (rS e 0)) (.str (rS e 0)) m = true then false else if (rA e 1).length = 0 then false else match grpIn n (rA e 1) 0 tk with
    | none => false
    | some tk => grpsGo n t (count .str (.string (rS e 0)) (.str (rS e 0)) m) tk
def grpsB (S G : List (List D)) : Bool := grpsGo S.length G [] [] && decide (G.length ≤ 16)
def lensOk (j n : Nat) (G : List (List D)) : Bool := G.all fun e => decide ((rA e j).length ≤ n)
def pGrps : List V → Bool
  | [.agg [.arr _ s, .arr _ y, .arr _ r, .arr _ g]] => decide (g.length ≤ 1048576) && lensOk 1 1048576 g
  | _ => true
def gGrps : List V → Option V
  | [.agg [.arr [.str, .int .i64, .arr [.int .u8], .int .i64] s, .arr [.str, .int .u8, .bool, .int .i64, .int .i64, .int .i64] y, .arr [.int .i64, .int .i64, .int .u8, .int .i64, .int .i64] r, .arr [.str, .arr [.int .i64]] g]] => some (.val (.bool (grpsB s g)))
  | _ => none
def lc1 : List (Nat × ExtF) := (63, exB nPart flC pPart gPart) :: (66, exN [] gFst) :: (62, exP [.sl strs] pClnS gClnS) :: (165, exN [] gRelW) :: (163, exN [] gSpn) :: (164, exN [] gSums) :: (56, exP nObj pSyms gSyms) :: (58, exP nObj pGrps gGrps) :: lb4
noncomputable def en1 : Info := infoL Try.prog lc1 ent keepOf
end Go.Proofs.Ytkcopbnaleiocaa.Ev
