/- The library's contracts on sorted keys and on deleting from a map, laid at this program (each a list of closed facts that the kernel checks; lay-plain.mjs printed them). resolve's lacks, walked with the kit's words: the names that are asked for and not defined, sorted. -/
import Derived.Shelf.SlIter.Nil
import Derived.Shelf.SortM.Plain
import Derived.Shelf.SortM.SortNone
import Derived.Shelf.SlMaps.DeleteFunc
import Derived.Test.YtacfehneeanlgaaDoorRtA
import Derived.Test.YtacfehneeanlgaaDoorRtR
namespace Go.Proofs.YtacfehneeanlgaaDoor.Ev
open Go Go.Shelf Go.RowKit Go.Maps Go.Sort
set_option linter.unusedVariables false
def delf_ren : Go.Shelf.Ren := ⟨fun | 5 => 29 | n => n, fun | 23 => 56 | 26 => 9 | 24 => 3 | 27 => 75 | 0 => 0 | 4 => 4 | n => n, fun | n => n⟩
theorem delf : Go.Proofs.SlLaysDf.n5 Tryd.prog delf_ren := {
  mixed := by kernel_rfl
  f5 := ⟨Tryd.f29.name, by decide, Tryd.func29.trans (congrArg some (by kernel_rfl))⟩
  t0 := Tryd.underlying0
  a0 := Tryd.isAgg0
  z0 := Tryd.sizeOf0
  v0 := Tryd.zeroValue0
  t4 := Tryd.underlying4
  a4 := Tryd.isAgg4
  z4 := Tryd.sizeOf4
  v4 := Tryd.zeroValue4
  t23 := Tryd.underlying56
  a23 := Tryd.isAgg56
  z23 := Tryd.sizeOf56
  v23 := Tryd.zeroValue56
  a24 := Tryd.isAgg3
  z24 := Tryd.sizeOf3
  a26 := Tryd.isAgg9
  z26 := Tryd.sizeOf9
  t27 := Tryd.underlying75
  a27 := Tryd.isAgg75
  z27 := Tryd.sizeOf75
  v27 := Tryd.zeroValue75 }
def keysL_ren : Go.Shelf.Ren := ⟨fun | 7 => 32 | 10 => 41 | n => n, fun | 23 => 56 | 26 => 9 | 3 => 3 | 28 => 78 | 0 => 0 | 27 => 77 | 33 => 87 | 4 => 4 | n => n, fun | n => n⟩
theorem keysL : Go.Proofs.SlLaysZ.n7 Tryd.prog keysL_ren := {
  mixed := by kernel_rfl
  f7 := ⟨Tryd.f32.name, by decide, Tryd.func32.trans (congrArg some (by kernel_rfl))⟩
  f10 := ⟨Tryd.f41.name, by decide, Tryd.func41.trans (congrArg some (by kernel_rfl))⟩
  t0 := Tryd.underlying0
  a0 := Tryd.isAgg0
  z0 := Tryd.sizeOf0
  v0 := Tryd.zeroValue0
  t4 := Tryd.underlying4
  a4 := Tryd.isAgg4
  z4 := Tryd.sizeOf4
  v4 := Tryd.zeroValue4
  t23 := Tryd.underlying56
  a23 := Tryd.isAgg56
  z23 := Tryd.sizeOf56
  v23 := Tryd.zeroValue56
  t26 := Tryd.underlying9
  a26 := Tryd.isAgg9
  z26 := Tryd.sizeOf9
  v26 := Tryd.zeroValue9
  t27 := Tryd.underlying77
  a27 := Tryd.isAgg77
  z27 := Tryd.sizeOf77
  v27 := Tryd.zeroValue77
  t28 := Tryd.underlying78
  a28 := Tryd.isAgg78
  z28 := Tryd.sizeOf78
  v28 := Tryd.zeroValue78
  t33 := Tryd.underlying87
  a33 := Tryd.isAgg87
  z33 := Tryd.sizeOf87
  v33 := Tryd.zeroValue87 }
def sortedL_ren : Go.Shelf.Ren := ⟨fun | 6 => 31 | 8 => 39 | 9 => 40 | 11 => 52 | 13 => 54 | 12 => 53 | 23 => 77 | 24 => 78 | 14 => 68 | 15 => 69 | 16 => 70 | 17 => 71 | 18 => 72 | 19 => 73 | 20 => 74 | 21 => 75 | 22 => 76 | 25 => 84 | 26 => 85 | 27 => 86 | 28 => 87 | 29 => 88 | 30 => 89 | 31 => 92 | n => n, fun | 26 => 9 | 28 => 78 | 24 => 49 | 0 => 0 | 3 => 3 | 37 => 81 | 48 => 99 | 50 => 102 | 4 => 4 | 40 => 126 | 39 => 125 | 45 => 131 | 5 => 5 | 9 => 9 | 51 => 138 | 55 => 142 | 57 => 145 | 58 => 121 | 33 => 87 | n => n, fun | n => n⟩
theorem sortedL : Go.Proofs.SlLaysZ.n6 Tryd.prog sortedL_ren := {
  mixed := by kernel_rfl
  f6 := ⟨Tryd.f31.name, by decide, Tryd.func31.trans (congrArg some (by kernel_rfl))⟩
  f8 := ⟨Tryd.f39.name, by decide, Tryd.func39.trans (congrArg some (by kernel_rfl))⟩
  f11 := ⟨Tryd.f52.name, by decide, Tryd.func52.trans (congrArg some (by kernel_rfl))⟩
  t0 := Tryd.underlying0
  a0 := Tryd.isAgg0
  z0 := Tryd.sizeOf0
  v0 := Tryd.zeroValue0
  t24 := Tryd.underlying49
  a24 := Tryd.isAgg49
  z24 := Tryd.sizeOf49
  v24 := Tryd.zeroValue49
  t26 := Tryd.underlying9
  a26 := Tryd.isAgg9
  z26 := Tryd.sizeOf9
  v26 := Tryd.zeroValue9
  t28 := Tryd.underlying78
  a28 := Tryd.isAgg78
  z28 := Tryd.sizeOf78
  v28 := Tryd.zeroValue78
  i26 := by kernel_rfl }
def sortL_ren : Go.Shelf.Ren := ⟨fun | 6 => 40 | 8 => 54 | 9 => 53 | 19 => 77 | 20 => 78 | 21 => 68 | 22 => 69 | 23 => 70 | 24 => 71 | 25 => 72 | 26 => 73 | 27 => 74 | 28 => 75 | 29 => 76 | 36 => 84 | 31 => 85 | 32 => 86 | 37 => 87 | 38 => 88 | 39 => 89 | 41 => 92 | n => n, fun | 27 => 49 | 29 => 9 | 3 => 3 | 32 => 81 | 26 => 49 | 0 => 0 | 44 => 99 | 46 => 102 | 4 => 4 | 36 => 126 | 35 => 125 | 41 => 131 | 5 => 5 | 9 => 9 | 53 => 138 | 57 => 142 | 63 => 145 | 64 => 121 | n => n, fun | n => n⟩
theorem sortL : Go.Proofs.SlLaysM.n6 Tryd.prog sortL_ren := {
  mixed := by kernel_rfl
  f6 := ⟨Tryd.f40.name, by decide, Tryd.func40.trans (congrArg some (by kernel_rfl))⟩
  f8 := Tryd.func54.trans (congrArg some (by kernel_rfl))
  f9 := ⟨Tryd.f53.name, by decide, Tryd.func53.trans (congrArg some (by kernel_rfl))⟩
  f19 := Tryd.func77.trans (congrArg some (by kernel_rfl))
  f20 := Tryd.func78.trans (congrArg some (by kernel_rfl))
  f21 := ⟨Tryd.f68.name, by decide, Tryd.func68.trans (congrArg some (by kernel_rfl))⟩
  f22 := ⟨Tryd.f69.name, by decide, Tryd.func69.trans (congrArg some (by kernel_rfl))⟩
  f23 := ⟨Tryd.f70.name, by decide, Tryd.func70.trans (congrArg some (by kernel_rfl))⟩
  f24 := ⟨Tryd.f71.name, by decide, Tryd.func71.trans (congrArg some (by kernel_rfl))⟩
  f25 := ⟨Tryd.f72.name, by decide, Tryd.func72.trans (congrArg some (by kernel_rfl))⟩
  f26 := ⟨Tryd.f73.name, by decide, Tryd.func73.trans (congrArg some (by kernel_rfl))⟩
  f27 := ⟨Tryd.f74.name, by decide, Tryd.func74.trans (congrArg some (by kernel_rfl))⟩
  f28 := ⟨Tryd.f75.name, by decide, Tryd.func75.trans (congrArg some (by kernel_rfl))⟩
  f29 := ⟨Tryd.f76.name, by decide, Tryd.func76.trans (congrArg some (by kernel_rfl))⟩
  f31 := Tryd.func85.trans (congrArg some (by kernel_rfl))
  f32 := Tryd.func86.trans (congrArg some (by kernel_rfl))
  f36 := ⟨Tryd.f84.name, by decide, Tryd.func84.trans (congrArg some (by kernel_rfl))⟩
  f37 := ⟨Tryd.f87.name, by decide, Tryd.func87.trans (congrArg some (by kernel_rfl))⟩
  f38 := ⟨Tryd.f88.name, by decide, Tryd.func88.trans (congrArg some (by kernel_rfl))⟩
  f39 := ⟨Tryd.f89.name, by decide, Tryd.func89.trans (congrArg some (by kernel_rfl))⟩
  f41 := ⟨Tryd.f92.name, by decide, Tryd.func92.trans (congrArg some (by kernel_rfl))⟩
  t0 := Tryd.underlying0
  a0 := Tryd.isAgg0
  z0 := Tryd.sizeOf0
  v0 := Tryd.zeroValue0
  t3 := Tryd.underlying3
  a3 := Tryd.isAgg3
  z3 := Tryd.sizeOf3
  v3 := Tryd.zeroValue3
  t4 := Tryd.underlying4
  a4 := Tryd.isAgg4
  z4 := Tryd.sizeOf4
  v4 := Tryd.zeroValue4
  t5 := Tryd.underlying5
  a5 := Tryd.isAgg5
  z5 := Tryd.sizeOf5
  v5 := Tryd.zeroValue5
  t9 := Tryd.underlying9
  a9 := Tryd.isAgg9
  z9 := Tryd.sizeOf9
  v9 := Tryd.zeroValue9
  t26 := Tryd.underlying49
  a26 := Tryd.isAgg49
  z26 := Tryd.sizeOf49
  v26 := Tryd.zeroValue49
  t27 := Tryd.underlying49
  a27 := Tryd.isAgg49
  z27 := Tryd.sizeOf49
  v27 := Tryd.zeroValue49
  t29 := Tryd.underlying9
  a29 := Tryd.isAgg9
  z29 := Tryd.sizeOf9
  v29 := Tryd.zeroValue9
  t32 := Tryd.underlying81
  a32 := Tryd.isAgg81
  z32 := Tryd.sizeOf81
  v32 := Tryd.zeroValue81
  t35 := Tryd.underlying125
  a35 := Tryd.isAgg125
  z35 := Tryd.sizeOf125
  v35 := Tryd.zeroValue125
  t36 := Tryd.underlying126
  a36 := Tryd.isAgg126
  z36 := Tryd.sizeOf126
  v36 := Tryd.zeroValue126
  t41 := Tryd.underlying131
  a41 := Tryd.isAgg131
  z41 := Tryd.sizeOf131
  v41 := Tryd.zeroValue131
  t44 := Tryd.underlying99
  a44 := Tryd.isAgg99
  z44 := Tryd.sizeOf99
  v44 := Tryd.zeroValue99
  t46 := Tryd.underlying102
  a46 := Tryd.isAgg102
  z46 := Tryd.sizeOf102
  v46 := Tryd.zeroValue102
  t53 := Tryd.underlying138
  a53 := Tryd.isAgg138
  z53 := Tryd.sizeOf138
  v53 := Tryd.zeroValue138
  t57 := Tryd.underlying142
  a57 := Tryd.isAgg142
  z57 := Tryd.sizeOf142
  v57 := Tryd.zeroValue142
  t63 := Tryd.underlying145
  a63 := Tryd.isAgg145
  z63 := Tryd.sizeOf145
  v63 := Tryd.zeroValue145
  t64 := Tryd.underlying121
  a64 := Tryd.isAgg121
  z64 := Tryd.sizeOf121
  v64 := Tryd.zeroValue121 }
/-- slices.Sort's two contracts at this program. -/
theorem sortsL (m : Nat) : AnyZ.SortsIn Tryd.prog sortedL_ren Fence.wide m :=
  ⟨fun blk off cap ss W hH hblk hsz => callsIn_wide.2 (AnyM.slices_Sort_string sortL blk off cap ss W hH hblk hsz),
   fun p cap W => callsIn_wide.2 (AnyM.slices_Sort_string_none sortL p cap W)⟩
/-- maps.Keys: a function value over one new block, which holds the map. -/
theorem keys_calls (mb : Option Nat) (W : World) : CallsIn Fence.wide 5 Tryd.prog 32 #[.map mb] W fun e w' => e = .returned (.func (.func 41) #[] #[.pointer (some ⟨W.heap.size, 0, none⟩)]) ∧ w' = W.alloc (.cells #[.map mb] 56) :=
  AnyZ.keys_in keysL Fence.wide 5 trivial rfl mb W
set_option maxHeartbeats 1000000 in
/-- slices.Sorted of a map's keys: a new slice of them, sorted. -/
theorem sorted_calls {H : Type} (b nn : Nat) (D0 : DataW H) (R : Value → Option (DataW H × List MemPlace)) (w : World) (hown : w.ownsMap Tryd.prog 9 R b nn D0) (hmax : Maps.size D0 ≤ maxLen) (hbytes : Maps.size D0 * 16 ≤ 140737488355328) :
    CallsIn Fence.wide 5 Tryd.prog 31 #[.func (.func 41) #[] #[.pointer (some ⟨w.heap.size, 0, none⟩)]] (w.alloc (.cells #[.map (some b)] 56)) fun e w' => ∃ (v : Value) (ss : List (List UInt8)), e = .returned v ∧ ss.Perm (strKeys D0) ∧
      w'.ownsRow (w.alloc (.cells #[.map (some b)] 56)).heap.size 9 1 v ss.length ((ss.mergeSort (fun x y => decide (x ≤ y))).map encStr) ∧ (v = .slice none 0 0 ↔ ss = []) ∧ Go.RowKit.Below (w.alloc (.cells #[.map (some b)] 56)).heap.size (w.alloc (.cells #[.map (some b)] 56)) w' := by
  have hbl := hown.lt
  have hseq : SeqGives Fence.wide 2 Tryd.prog 41 #[.pointer (some ⟨w.heap.size, 0, none⟩)] encStr (fun ss => ss.Perm (strKeys D0)) (Maps.size D0) (w.alloc (.cells #[.map (some b)] 56)) :=
    AnyZ.keys_gives (ρ := keysL_ren) { keysL with } Fence.wide _ trivial rfl (by omega) w.heap.size b nn D0 _ (by simp) (by simp) (by
      obtain ⟨es, clock, hb, Ft, hs, hD⟩ := hown
      exact ⟨es, clock, (Go.RowKit.Below.heap_alloc _ _ b hbl).trans hb, Ft, hs, hD⟩)
  exact AnyZ.sorted_in sortedL Fence.wide 5 trivial trivial trivial trivial rfl (by omega) (sortsL _) (enters_of Tryd.func40 (by kernel_rfl) rfl) 41 #[.pointer (some ⟨w.heap.size, 0, none⟩)] trivial (enters_of Tryd.func41 (by kernel_rfl) rfl) _ _ hmax hbytes _ hseq
end Go.Proofs.YtacfehneeanlgaaDoor.Ev
namespace Go.Proofs.YtacfehneeanlgaaDoor.Ev
open Go Go.RowKit Go.Shelf Go.Maps Go.Sort
set_option linter.unusedVariables false
set_option linter.unusedSimpArgs false
/-- Each once. -/
def dd : List (List UInt8) → List (List UInt8)
  | [] => []
  | a :: l => if a ∈ l then dd l else a :: dd l
theorem mem_dd {x : List UInt8} : ∀ {l : List (List UInt8)}, x ∈ dd l ↔ x ∈ l
  | [] => Iff.rfl
  | a :: l => by
    simp only [dd]
    split
    · rename_i h
      rw [mem_dd, List.mem_cons]
      exact ⟨.inr, fun h2 => h2.elim (fun e => by rw [e]; exact h) id⟩
    · rw [List.mem_cons, List.mem_cons, mem_dd]
theorem nodup_dd : ∀ (l : List (List UInt8)), (dd l).Nodup
  | [] => List.nodup_nil
  | a :: l => by
    simp only [dd]
    split
    · exact nodup_dd l
    · rename_i h
      exact List.nodup_cons.2 ⟨fun h2 => h (mem_dd.1 h2), nodup_dd l⟩
/-- What the deletion strikes. -/
def pdL (df : ByteArray → Def1) : Lit → DataW Unit → Bool := fun kl _ => match kl with
  | .string l => (df ⟨l.toArray⟩).is
  | _ => false
theorem has_delf (df : ByteArray → Def1) {A : DataW Unit} (h : IsMap A) (x : List UInt8) : Maps.has (Lib.deleteFuncD (pdL df) A) (.string x) = (Maps.has A (.string x) && !(df ⟨x.toArray⟩).is) := by
  obtain ⟨es, rfl⟩ := h
  show Maps.has (.map (es.filter fun p => !pdL df p.1 p.2)) _ = _
  rw [has_eq, has_eq, List.any_filter]
  rw [Bool.eq_iff_iff, List.any_eq_true, Bool.and_eq_true, List.any_eq_true]
  constructor
  · rintro ⟨p, hp, h2⟩
    rw [Bool.and_eq_true] at h2
    have e := WideAt.sameKey_eq h2.2
    refine ⟨⟨p, hp, h2.2⟩, ?_⟩
    have h3 := h2.1
    rw [e] at h3
    exact h3
  · rintro ⟨⟨p, hp, h2⟩, h3⟩
    have e := WideAt.sameKey_eq h2
    exact ⟨p, hp, by rw [Bool.and_eq_true]; exact ⟨by rw [e]; exact h3, h2⟩⟩
set_option maxRecDepth 100000 in
set_option maxHeartbeats 4000000 in
theorem lacks1_calls (W : World) (bt b1 n : Nat) (M : DataW Unit) (h0 : W.cell? ⟨bt, 0, none⟩ = some (.map (some b1))) (hM : W.ownsMap Tryd.prog 9 defR b1 n M) (s : ByteArray) (hs : s.size ≤ maxLen) (c : Int) (d : Def1) (hat : M.atKey (strK s) Def1.zero.d = d.d) :
    Calls Tryd.prog 30 #[.string s, .int .i64 c, .pointer (some ⟨bt, 0, none⟩)] W fun e W' => e = .returned (.bool d.is) ∧ W.grownBy W' none := by
  have hlk : (Instr.lookup 55 (.map (some b1)) (.string s) false).run Tryd.prog W = .ok d.v W := by
    obtain ⟨d', h1, h2⟩ := look_def hM hs
    rw [hat] at h2
    rw [h1, Def1.d_inj h2]
  simp only [Def1.v] at hlk
  have hfl : (Instr.field 62 (.agg #[.int .i64 d.r0, .int .i64 d.r1, .int .i64 d.r2, .int .i64 d.ob, .int .i64 d.sy, .int .i64 d.st, .bool d.is]) 3).run Tryd.prog W = .ok (.bool d.is) W := by kernel_rfl
  go_enter Tryd.func30, Tryd.ntmps30
  go_wp2
  go_ret
  exact ⟨rfl, ⟨rfl, rfl, rfl, Nat.le_refl _, fun _ _ _ => rfl⟩⟩
set_option maxRecDepth 100000 in
set_option maxHeartbeats 4000000 in
theorem lacks_calls (w : World) (b1 b2 k1 k2 : Nat) (M A : DataW Unit) (df : ByteArray → Def1) (af : ByteArray → Bool) (hM : w.ownsMap Tryd.prog 9 defR b1 k1 M) (hA : w.ownsMap Tryd.prog 9 (plainElem Tryd.prog 3) b2 k2 A) (hT : TabIs M A df af) (hne : b1 ≠ b2) (hk2 : k2 ≤ 8192) :
    Calls Tryd.prog 23 #[.agg #[.map (some b1), .map (some b2)]] w fun e W' => ∃ v ss, e = .returned v ∧ (∀ x, x ∈ ss ↔ af ⟨x.toArray⟩ = true ∧ (df ⟨x.toArray⟩).is = false) ∧ ss.Nodup ∧
      W'.ownsRow w.heap.size 9 1 v ss.length ((ss.mergeSort fun x y => decide (x ≤ y)).map encStr) ∧ (v = .slice none 0 0 ↔ ss = []) ∧ w.grownBy W' (some b2) ∧ ∀ x ∈ ss, x.length ≤ maxLen := by
  have h1w := hM.lt
  have h2w := hA.lt
  have hdel : ∀ (W : World) (key val : Value) (kl : Lit) (yd : DataW Unit) (yp : List MemPlace), (w.alloc (.cells #[.map (some b1), .map (some b2)] 58)).grownBy W (some b2) → keyOf Tryd.prog 9 key = some kl → plainElem (H := Unit) Tryd.prog 3 val = some (yd, yp) →
      Calls Tryd.prog 30 (#[key, val] ++ #[.pointer (some ⟨w.heap.size, 0, none⟩)]) W fun e w' => e = .returned (.bool (pdL df kl yd)) ∧ W.grownBy w' none := by
    intro W key val kl yd yp hg hk hv
    obtain ⟨x, rfl, rfl, hx⟩ := Maps.keyOf_str Tryd.underlying9 hk
    obtain ⟨c, rfl, _⟩ := plainElem_int_inv Tryd.underlying3 hv
    have hc : W.cell? ⟨w.heap.size, 0, none⟩ = some (.map (some b1)) := (World.cell?_of_block (a := ⟨w.heap.size, 0, none⟩) (hg.block w.heap.size (by simp) (by simp; omega))).trans (World.cell?_alloc_at _ _ _ 0 rfl)
    have hM' := (hM.alloc (.cells #[.map (some b1), .map (some b2)] 58)).kept hg (by simp; omega)
    have := lacks1_calls W _ b1 k1 M hc hM' ⟨x.toArray⟩ (by simpa [ByteArray.size] using hx) c (df ⟨x.toArray⟩) (hT.defs _)
    exact this
  have hmax : ∀ (W : World) (X : DataW Unit), W.ownsMap Tryd.prog 9 (plainElem Tryd.prog 3) b2 k2 X → Maps.size X ≤ maxLen := fun W X h => by have := h.size_le; unfold maxLen; omega
  have hbyt : ∀ (W : World) (X : DataW Unit), W.ownsMap Tryd.prog 9 (plainElem Tryd.prog 3) b2 k2 X → Maps.size X * 16 ≤ 140737488355328 := fun W X h => by have := h.size_le; omega
  have hbox : ∀ (C : Obj) (W2 : World), C = .cells #[.map (some b1), .map (some b2)] 58 → (w.alloc C).grownBy W2 (some b2) → W2.cell? ⟨w.heap.size, 1, none⟩ = some (.map (some b2)) := fun C W2 e hg => by
    subst e
    exact (World.cell?_of_block (a := ⟨w.heap.size, 1, none⟩) (hg.block w.heap.size (by simp) (by simp; omega))).trans (World.cell?_alloc_at _ _ _ 1 rfl)
  go_enter Tryd.func23, Tryd.ntmps23
  go_wp2_with (first
    | (go_at_call 29; refine (AnyDf.maps_DeleteFunc delf str_law (plainElem Tryd.prog 3) (pdL df) 30 #[.pointer (some ⟨w.heap.size, 0, none⟩)] b2 k2 A _ (enters_of Tryd.func30 (by kernel_rfl) rfl) (hA.alloc _) hdel).mono ?_; rintro e W2 ⟨rfl, hA2, hg2⟩; have hc2 := hbox _ W2 rfl hg2)
    | (go_at_call 32; refine (callsIn_wide.1 (keys_calls _ _)).mono ?_; rintro e W3 ⟨rfl, rfl⟩)
    | (go_at_call 31; refine (callsIn_wide.1 (sorted_calls b2 k2 _ _ _ hA2 (hmax _ _ hA2) (hbyt _ _ hA2))).mono ?_; rintro e W4 ⟨v, ss, rfl, hS, hrow, hnil, hb⟩)
    | go_in)
  go_ret
  have hA2' : W2.ownsMap Tryd.prog 9 (plainElem Tryd.prog 3) b2 k2 (Lib.deleteFuncD (pdL df) A) := hA2
  have hbl := hA2'.lt
  obtain ⟨es, he, hap, _⟩ := hA2'.entries str_law
  obtain ⟨es', he', hks⟩ := hA2'.keysOf
  have hstr : ∀ p ∈ es, ∃ x, p.1 = .string x := fun p hp => by
    have e2 : es = es' := by rw [he] at he'; injection he'
    obtain ⟨key, hkey⟩ := hks p (by rw [← e2]; exact hp)
    obtain ⟨x, _, hx, _⟩ := Maps.keyOf_str Tryd.underlying9 hkey
    exact ⟨x, hx⟩
  have hmem : ∀ x, x ∈ ss ↔ af ⟨x.toArray⟩ = true ∧ (df ⟨x.toArray⟩).is = false := fun x => by
    rw [hS.mem_iff]
    have h1 : x ∈ strKeys (Lib.deleteFuncD (pdL df) A) ↔ Maps.has (Lib.deleteFuncD (pdL df) A) (.string x) = true := by
      rw [he, has_eq, List.any_eq_true]
      show x ∈ es.map (fun p => strOf p.1) ↔ _
      rw [List.mem_map]
      constructor
      · rintro ⟨p, hp, rfl⟩
        obtain ⟨a, ha⟩ := hstr p hp
        exact ⟨p, hp, by rw [ha]; simp [Lit.sameKey, strOf]⟩
      · rintro ⟨p, hp, hs⟩
        obtain ⟨a, ha⟩ := hstr p hp
        rw [ha] at hs
        exact ⟨p, hp, by rw [ha]; simpa [Lit.sameKey, strOf] using hs⟩
    rw [h1, has_delf df hT.ia, ← hT.asks ⟨x.toArray⟩, Bool.and_eq_true, Bool.not_eq_true']
  have hnd : ss.Nodup := hS.nodup_iff.2 (by
    rw [he]
    show (es.map fun p => strOf p.1).Nodup
    refine List.pairwise_map.2 (hap.imp_of_mem fun {p q} hp' hq' hne e => hne ?_)
    obtain ⟨a, ha⟩ := hstr p hp'
    obtain ⟨b, hb⟩ := hstr q hq'
    rw [ha, hb] at e ⊢
    exact congrArg _ e)
  have hle : ∀ x ∈ ss, x.length ≤ maxLen := fun x hx => strKeys_le hA2' Tryd.underlying9 x (hS.mem_iff.1 hx)
  have hsz := hg2.size
  rw [World.size_alloc] at hsz
  refine ⟨v, ss, rfl, hmem, hnd, ?_, hnil, ?_, hle⟩
  · exact ownsRow_base_a hrow (by simp; omega)
  · have hbs := hb.size
    rw [World.size_alloc] at hbs
    refine ⟨hb.os.trans hg2.os, hb.tape.trans hg2.tape, hb.output.trans hg2.output, by omega, fun i hi hne => ?_⟩
    have e1 := hb.block i (by rw [World.size_alloc]; omega)
    have e2 := heap_push_old W2 (.cells #[.map (some b2)] 56) (b := i) (by omega)
    have e3 := hg2.block i (by rw [World.size_alloc]; omega) hne
    have e4 := heap_push_old w (.cells #[.map (some b1), .map (some b2)] 58) hi
    exact ((e1.trans e2).trans e3).trans e4
end Go.Proofs.YtacfehneeanlgaaDoor.Ev
