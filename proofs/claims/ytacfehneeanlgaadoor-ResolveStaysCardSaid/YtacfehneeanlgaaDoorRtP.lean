/- resolve's put, walked with the kit's words: one more definition of a name. -/
import Derived.Test.YtacfehneeanlgaaDoorRtA
namespace Go.Proofs.YtacfehneeanlgaaDoor.Ev
open Go Go.RowKit Go.Shelf Go.Maps
set_option linter.unusedVariables false
set_option linter.unusedSimpArgs false
set_option maxRecDepth 100000 in
set_option maxHeartbeats 4000000 in
/-- One more definition, of a name that had none. -/
theorem put_f (w : World) (hG : GlobW w) (bt b1 n : Nat) (M : DataW Unit) (h0 : w.cell? ⟨bt, 0, none⟩ = some (.map (some b1))) (hM : w.ownsMap Tryd.prog 9 defR b1 n M) (hn : n < maxLen) (nm : ByteArray) (hs : nm.size ≤ maxLen)
    (bd : Int) (hd : Bool) (wh va sz ob sy : Int) (d : Def1) (his : d.is = false) (hat : M.atKey (strK nm) Def1.zero.d = d.d) :
    Calls Tryd.prog 28 #[.pointer (some ⟨bt, 0, none⟩), .agg #[.string nm, .int .u8 bd, .bool hd, .int .i64 wh, .int .i64 va, .int .i64 sz], .agg #[.int .i64 ob, .int .i64 sy]] w fun e W' =>
      e = .returned (.tuple #[]) ∧ W'.ownsMap Tryd.prog 9 defR b1 (n + 1) (M.put (strK nm) (d.put bd wh va sz ob sy).d) ∧ w.grownBy W' (some b1) := by
  have hbt : bt < w.heap.size := World.block_lt_of_cell? w _ h0
  have hb1 := hM.lt
  have hlk : ∀ (A B : Obj), (Instr.lookup 55 (.map (some b1)) (.string nm) false).run Tryd.prog ((w.alloc A).alloc B).drew = .ok d.v ((w.alloc A).alloc B).drew := fun A B => by
    obtain ⟨d', h1, h2⟩ := look_def ((hM.alloc A).alloc B).drew hs
    rw [hat] at h2
    rw [h1, Def1.d_inj h2]
  have hlk2 : ∀ (A B C : Obj), (Instr.lookup 55 (.map (some b1)) (.string nm) false).run Tryd.prog (((w.alloc A).alloc B).alloc C).drew = .ok d.v (((w.alloc A).alloc B).alloc C).drew := fun A B C => by
    obtain ⟨d', h1, h2⟩ := look_def (((hM.alloc A).alloc B).alloc C).drew hs
    rw [hat] at h2
    rw [h1, Def1.d_inj h2]
  simp only [Def1.v] at hlk hlk2
  have f1 : ∀ A B C : Obj, (((w.alloc A).alloc B).alloc C).drew.cell? ⟨bt, 0, none⟩ = some (.map (some b1)) := fun A B C =>
    (World.cell?_alloc_lt _ _ _ (by simp; omega)).trans ((World.cell?_alloc_lt _ _ _ (by simp; omega)).trans ((World.cell?_alloc_lt _ _ _ hbt).trans h0))
  have f2 : ∀ A B : Obj, ((w.alloc A).alloc B).drew.cell? ⟨bt, 0, none⟩ = some (.map (some b1)) := fun A B =>
    (World.cell?_alloc_lt _ _ _ (by simp; omega)).trans ((World.cell?_alloc_lt _ _ _ hbt).trans h0)
  have f4 : ∀ A B C R : Obj, ((((w.alloc A).alloc B).alloc C).alloc R).cell? ⟨bt, 0, none⟩ = some (.map (some b1)) := fun A B C R =>
    (World.cell?_alloc_lt _ _ _ (by simp; omega)).trans (f1 A B C)
  have f5 : ∀ A B C R : Obj, ((((w.alloc A).alloc B).alloc C).alloc R).drew.drew.drew.drew.cell? ⟨bt, 0, none⟩ = some (.map (some b1)) := f4
  have hG4 : ∀ A B C R : Obj, GlobW ((((w.alloc A).alloc B).alloc C).alloc R).drew.drew := fun A B C R =>
    have hh : Go.RowKit.Below w.heap.size w ((((w.alloc A).alloc B).alloc C).alloc R) := ((((Go.RowKit.Below.refl _ w).alloc (Nat.le_refl _) _).alloc (by simp) _).alloc (by simp; omega) _).alloc (by simp; omega) _
    hG.below (n := w.heap.size) ⟨hh.os, hh.tape, hh.output, hh.size, hh.block⟩ (fun x hx => (hG x hx).1)
  have hM4 : ∀ A B C R : Obj, ((((w.alloc A).alloc B).alloc C).alloc R).ownsMap Tryd.prog 9 defR b1 n M := fun A B C R => (((hM.alloc A).alloc B).alloc C).alloc R
  have hg4 : ∀ A B C R : Obj, w.grownBy ((((w.alloc A).alloc B).alloc C).alloc R) none := fun A B C R => (((World.grownBy_alloc _ _ _).trans (World.grownBy_alloc _ _ _)).trans (World.grownBy_alloc _ _ _)).trans (World.grownBy_alloc _ _ _)
  have hdr : ∀ W : World, W.drew.ownsMap Tryd.prog 9 defR b1 n M ↔ W.ownsMap Tryd.prog 9 defR b1 n M := fun W => Iff.rfl
  have hup : ∀ (W : World) (r0 r1 r2 o s k : Int) (i : Bool), W.ownsMap Tryd.prog 9 defR b1 n M → (Instr.mapUpdate 55 (.map (some b1)) (.string nm) (.agg #[.int .i64 r0, .int .i64 r1, .int .i64 r2, .int .i64 o, .int .i64 s, .int .i64 k, .bool i])).run Tryd.prog W = .ok () (updW b1 nm W ⟨r0, r1, r2, o, s, k, i⟩) := fun W r0 r1 r2 o s k i h => (updW_run h hn hs ⟨r0, r1, r2, o, s, k, i⟩).1
  have gdr : ∀ W : World, w.grownBy W none → w.grownBy W.drew none := fun W hh => ⟨hh.os, hh.tape, hh.output, hh.size, hh.block⟩
  obtain ⟨q0, q1, q2, qo, qs, qn, is⟩ := d
  obtain rfl : is = false := his
  · go_enter Tryd.func28, Tryd.ntmps28
    go_wp2
    go_region
    go_wp2
    all_goals go_region
    all_goals go_wp2
    all_goals go_region
    all_goals go_wp2
    all_goals go_region
    all_goals go_end0
    all_goals refine ⟨rfl, put_fin ?_ ?_ hn hs ?_⟩
    all_goals first | exact hM4 _ _ _ _ | exact gdr _ (gdr _ (gdr _ (gdr _ (hg4 _ _ _ _)))) | simp_all [Def1.put, rankOf]
set_option maxRecDepth 100000 in
set_option maxHeartbeats 4000000 in
theorem put_t (w : World) (hG : GlobW w) (bt b1 n : Nat) (M : DataW Unit) (h0 : w.cell? ⟨bt, 0, none⟩ = some (.map (some b1))) (hM : w.ownsMap Tryd.prog 9 defR b1 n M) (hn : n < maxLen) (nm : ByteArray) (hs : nm.size ≤ maxLen)
    (bd : Int) (hd : Bool) (wh va sz ob sy : Int) (d : Def1) (his : d.is = true) (hat : M.atKey (strK nm) Def1.zero.d = d.d) :
    Calls Tryd.prog 28 #[.pointer (some ⟨bt, 0, none⟩), .agg #[.string nm, .int .u8 bd, .bool hd, .int .i64 wh, .int .i64 va, .int .i64 sz], .agg #[.int .i64 ob, .int .i64 sy]] w fun e W' =>
      e = .returned (.tuple #[]) ∧ W'.ownsMap Tryd.prog 9 defR b1 (n + 1) (M.put (strK nm) (d.put bd wh va sz ob sy).d) ∧ w.grownBy W' (some b1) := by
  have hbt : bt < w.heap.size := World.block_lt_of_cell? w _ h0
  have hb1 := hM.lt
  have hlk : ∀ (A B : Obj), (Instr.lookup 55 (.map (some b1)) (.string nm) false).run Tryd.prog ((w.alloc A).alloc B).drew = .ok d.v ((w.alloc A).alloc B).drew := fun A B => by
    obtain ⟨d', h1, h2⟩ := look_def ((hM.alloc A).alloc B).drew hs
    rw [hat] at h2
    rw [h1, Def1.d_inj h2]
  have hlk2 : ∀ (A B C : Obj), (Instr.lookup 55 (.map (some b1)) (.string nm) false).run Tryd.prog (((w.alloc A).alloc B).alloc C).drew = .ok d.v (((w.alloc A).alloc B).alloc C).drew := fun A B C => by
    obtain ⟨d', h1, h2⟩ := look_def (((hM.alloc A).alloc B).alloc C).drew hs
    rw [hat] at h2
    rw [h1, Def1.d_inj h2]
  simp only [Def1.v] at hlk hlk2
  have f1 : ∀ A B C : Obj, (((w.alloc A).alloc B).alloc C).drew.cell? ⟨bt, 0, none⟩ = some (.map (some b1)) := fun A B C =>
    (World.cell?_alloc_lt _ _ _ (by simp; omega)).trans ((World.cell?_alloc_lt _ _ _ (by simp; omega)).trans ((World.cell?_alloc_lt _ _ _ hbt).trans h0))
  have f2 : ∀ A B : Obj, ((w.alloc A).alloc B).drew.cell? ⟨bt, 0, none⟩ = some (.map (some b1)) := fun A B =>
    (World.cell?_alloc_lt _ _ _ (by simp; omega)).trans ((World.cell?_alloc_lt _ _ _ hbt).trans h0)
  have f4 : ∀ A B C R : Obj, ((((w.alloc A).alloc B).alloc C).alloc R).cell? ⟨bt, 0, none⟩ = some (.map (some b1)) := fun A B C R =>
    (World.cell?_alloc_lt _ _ _ (by simp; omega)).trans (f1 A B C)
  have f5 : ∀ A B C R : Obj, ((((w.alloc A).alloc B).alloc C).alloc R).drew.drew.drew.drew.cell? ⟨bt, 0, none⟩ = some (.map (some b1)) := f4
  have hG4 : ∀ A B C R : Obj, GlobW ((((w.alloc A).alloc B).alloc C).alloc R).drew.drew := fun A B C R =>
    have hh : Go.RowKit.Below w.heap.size w ((((w.alloc A).alloc B).alloc C).alloc R) := ((((Go.RowKit.Below.refl _ w).alloc (Nat.le_refl _) _).alloc (by simp) _).alloc (by simp; omega) _).alloc (by simp; omega) _
    hG.below (n := w.heap.size) ⟨hh.os, hh.tape, hh.output, hh.size, hh.block⟩ (fun x hx => (hG x hx).1)
  have hM4 : ∀ A B C R : Obj, ((((w.alloc A).alloc B).alloc C).alloc R).ownsMap Tryd.prog 9 defR b1 n M := fun A B C R => (((hM.alloc A).alloc B).alloc C).alloc R
  have hg4 : ∀ A B C R : Obj, w.grownBy ((((w.alloc A).alloc B).alloc C).alloc R) none := fun A B C R => (((World.grownBy_alloc _ _ _).trans (World.grownBy_alloc _ _ _)).trans (World.grownBy_alloc _ _ _)).trans (World.grownBy_alloc _ _ _)
  have hdr : ∀ W : World, W.drew.ownsMap Tryd.prog 9 defR b1 n M ↔ W.ownsMap Tryd.prog 9 defR b1 n M := fun W => Iff.rfl
  have hup : ∀ (W : World) (r0 r1 r2 o s k : Int) (i : Bool), W.ownsMap Tryd.prog 9 defR b1 n M → (Instr.mapUpdate 55 (.map (some b1)) (.string nm) (.agg #[.int .i64 r0, .int .i64 r1, .int .i64 r2, .int .i64 o, .int .i64 s, .int .i64 k, .bool i])).run Tryd.prog W = .ok () (updW b1 nm W ⟨r0, r1, r2, o, s, k, i⟩) := fun W r0 r1 r2 o s k i h => (updW_run h hn hs ⟨r0, r1, r2, o, s, k, i⟩).1
  have gdr : ∀ W : World, w.grownBy W none → w.grownBy W.drew none := fun W hh => ⟨hh.os, hh.tape, hh.output, hh.size, hh.block⟩
  obtain ⟨q0, q1, q2, qo, qs, qn, is⟩ := d
  obtain rfl : is = true := his
  · have hcm : ∀ (Ac Bc : Array Value) (tA tB : TypeId) (x3 x4 x5 x6 : Value) (r0 r1 r2 : Int), Calls Tryd.prog 38 #[.slice (some ⟨w.heap.size + 1 + 1 + 1, 0, none⟩) 3 3, .slice (some ⟨w.heap.size + 1 + 1, 0, none⟩) 3 3]
        ((((w.alloc (Obj.cells Ac tA)).alloc (Obj.cells Bc tB)).alloc (Obj.cells #[.int .i64 q0, .int .i64 q1, .int .i64 q2, x3, x4, x5, x6] 62)).alloc (Obj.cells #[.int .i64 r0, .int .i64 r1, .int .i64 r2] 60)).drew.drew
        fun e W' => e = .returned (.int .i64 (cmpL (rankD (r0, r1, r2)) (rankD (q0, q1, q2)))) ∧ (∀ k, W'.cell? ⟨w.heap.size + 1 + 1 + 1, k, none⟩ = (#[.int .i64 r0, .int .i64 r1, .int .i64 r2] : Array Value)[k]?) ∧
          (∀ k, W'.cell? ⟨w.heap.size + 1 + 1, k, none⟩ = (#[.int .i64 q0, .int .i64 q1, .int .i64 q2, x3, x4, x5, x6] : Array Value)[k]?) ∧ (∀ k, W'.cell? ⟨w.heap.size + 1, k, none⟩ = Bc[k]?) ∧ (∀ k, W'.cell? ⟨w.heap.size, k, none⟩ = Ac[k]?) ∧
          W'.cell? ⟨bt, 0, none⟩ = some (.map (some b1)) ∧ (∀ k, W'.frozen? ⟨w.heap.size + 1 + 1, k, none⟩ = false) ∧ W'.ownsMap Tryd.prog 9 defR b1 n M ∧ w.grownBy W' none := by
      intro Ac Bc tA tB x3 x4 x5 x6 r0 r1 r2
      have eR : ∀ k, ((((w.alloc (Obj.cells Ac tA)).alloc (Obj.cells Bc tB)).alloc (Obj.cells #[.int .i64 q0, .int .i64 q1, .int .i64 q2, x3, x4, x5, x6] 62)).alloc (Obj.cells #[.int .i64 r0, .int .i64 r1, .int .i64 r2] 60)).drew.drew.cell? ⟨w.heap.size + 1 + 1 + 1, k, none⟩ = (#[.int .i64 r0, .int .i64 r1, .int .i64 r2] : Array Value)[k]? := fun k => World.cell?_alloc_at _ _ _ k (by simp)
      have eD : ∀ k, ((((w.alloc (Obj.cells Ac tA)).alloc (Obj.cells Bc tB)).alloc (Obj.cells #[.int .i64 q0, .int .i64 q1, .int .i64 q2, x3, x4, x5, x6] 62)).alloc (Obj.cells #[.int .i64 r0, .int .i64 r1, .int .i64 r2] 60)).drew.drew.cell? ⟨w.heap.size + 1 + 1, k, none⟩ = (#[.int .i64 q0, .int .i64 q1, .int .i64 q2, x3, x4, x5, x6] : Array Value)[k]? := fun k => (World.cell?_alloc_past _ _ k (by simp)).trans (World.cell?_alloc_at _ _ _ k (by simp))
      have eB : ∀ k, ((((w.alloc (Obj.cells Ac tA)).alloc (Obj.cells Bc tB)).alloc (Obj.cells #[.int .i64 q0, .int .i64 q1, .int .i64 q2, x3, x4, x5, x6] 62)).alloc (Obj.cells #[.int .i64 r0, .int .i64 r1, .int .i64 r2] 60)).drew.drew.cell? ⟨w.heap.size + 1, k, none⟩ = Bc[k]? := fun k => (World.cell?_alloc_past _ _ k (by simp)).trans ((World.cell?_alloc_past _ _ k (by simp)).trans (World.cell?_alloc_at _ _ _ k (by simp)))
      have eA : ∀ k, ((((w.alloc (Obj.cells Ac tA)).alloc (Obj.cells Bc tB)).alloc (Obj.cells #[.int .i64 q0, .int .i64 q1, .int .i64 q2, x3, x4, x5, x6] 62)).alloc (Obj.cells #[.int .i64 r0, .int .i64 r1, .int .i64 r2] 60)).drew.drew.cell? ⟨w.heap.size, k, none⟩ = Ac[k]? := fun k => (World.cell?_alloc_past _ _ k (by simp; omega)).trans ((World.cell?_alloc_past _ _ k (by simp; omega)).trans ((World.cell?_alloc_past _ _ k (by simp)).trans (World.cell?_alloc_at _ _ _ k rfl)))
      have eF : ∀ k, ((((w.alloc (Obj.cells Ac tA)).alloc (Obj.cells Bc tB)).alloc (Obj.cells #[.int .i64 q0, .int .i64 q1, .int .i64 q2, x3, x4, x5, x6] 62)).alloc (Obj.cells #[.int .i64 r0, .int .i64 r1, .int .i64 r2] 60)).drew.drew.frozen? ⟨w.heap.size + 1 + 1, k, none⟩ = false := fun k => (World.frozen?_alloc_past _ _ k (by simp)).trans (World.frozen?_alloc_at _ _ _ k (by simp))
      have eM := hM4 (Obj.cells Ac tA) (Obj.cells Bc tB) (Obj.cells #[.int .i64 q0, .int .i64 q1, .int .i64 q2, x3, x4, x5, x6] 62) (Obj.cells #[.int .i64 r0, .int .i64 r1, .int .i64 r2] 60)
      have eg := hg4 (Obj.cells Ac tA) (Obj.cells Bc tB) (Obj.cells #[.int .i64 q0, .int .i64 q1, .int .i64 q2, x3, x4, x5, x6] 62) (Obj.cells #[.int .i64 r0, .int .i64 r1, .int .i64 r2] 60)
      have es : ((((w.alloc (Obj.cells Ac tA)).alloc (Obj.cells Bc tB)).alloc (Obj.cells #[.int .i64 q0, .int .i64 q1, .int .i64 q2, x3, x4, x5, x6] 62)).alloc (Obj.cells #[.int .i64 r0, .int .i64 r1, .int .i64 r2] 60)).drew.drew.heap.size = w.heap.size + 4 := by simp [World.drew]
      refine (cmp_calls _ (hG4 _ _ _ _) _ _ r0 r1 r2 q0 q1 q2 (eR 0) (eR 1) (eR 2) (eD 0) (eD 1) (eD 2)).mono ?_
      have e0 := f5 (Obj.cells Ac tA) (Obj.cells Bc tB) (Obj.cells #[.int .i64 q0, .int .i64 q1, .int .i64 q2, x3, x4, x5, x6] 62) (Obj.cells #[.int .i64 r0, .int .i64 r1, .int .i64 r2] 60)
      generalize ((((w.alloc (Obj.cells Ac tA)).alloc (Obj.cells Bc tB)).alloc (Obj.cells #[.int .i64 q0, .int .i64 q1, .int .i64 q2, x3, x4, x5, x6] 62)).alloc (Obj.cells #[.int .i64 r0, .int .i64 r1, .int .i64 r2] 60)) = W4 at *
      rintro e W' ⟨rfl, hb⟩
      rw [es] at hb
      have hc : ∀ b k, b < w.heap.size + 4 → W'.cell? ⟨b, k, none⟩ = W4.drew.drew.cell? ⟨b, k, none⟩ := fun b k hk => hb.cell (p := ⟨b, k, none⟩) hk
      refine ⟨rfl, fun k => (hc _ k (by omega)).trans (eR k), fun k => (hc _ k (by omega)).trans (eD k), fun k => (hc _ k (by omega)).trans (eB k), fun k => (hc _ k (by omega)).trans (eA k), (hc bt 0 (by omega)).trans e0, fun k => ?_, ?_, ?_⟩
      · have h2 := hb.block (w.heap.size + 1 + 1) (by omega)
        have h3 := eF k
        simp only [World.frozen?] at h3 ⊢
        rw [h2]; exact h3
      · exact World.ownsMap.kept (w := W4.drew.drew) (row := none) eM ⟨hb.os, hb.tape, hb.output, hb.size, fun i hi _ => hb.block i (by have : W4.drew.drew.heap.size = w.heap.size + 4 := es; omega)⟩ (by simp)
      · exact ⟨hb.os.trans eg.os, hb.tape.trans eg.tape, hb.output.trans eg.output, Nat.le_trans eg.size hb.size, fun i hi hne => (hb.block i (by omega)).trans (eg.block i hi hne)⟩
    have hset : ∀ (W : World) (k : Nat) (v : Value), W.ownsMap Tryd.prog 9 defR b1 n M → (W.setCell ⟨w.heap.size + 1 + 1, k, none⟩ v).ownsMap Tryd.prog 9 defR b1 n M := fun W k v h => h.setCell (a := ⟨w.heap.size + 1 + 1, k, none⟩) (by show b1 ≠ w.heap.size + 1 + 1; omega) v
    have hset6 : ∀ (W : World) (k0 k1 k2 k3 k4 k5 : Nat) (v0 v1 v2 v3 v4 v5 : Value), W.ownsMap Tryd.prog 9 defR b1 n M → ((((((W.setCell ⟨w.heap.size + 1 + 1, k0, none⟩ v0).setCell ⟨w.heap.size + 1 + 1, k1, none⟩ v1).setCell ⟨w.heap.size + 1 + 1, k2, none⟩ v2).setCell ⟨w.heap.size + 1 + 1, k3, none⟩ v3).setCell ⟨w.heap.size + 1 + 1, k4, none⟩ v4).setCell ⟨w.heap.size + 1 + 1, k5, none⟩ v5).ownsMap Tryd.prog 9 defR b1 n M := fun W k0 k1 k2 k3 k4 k5 v0 v1 v2 v3 v4 v5 h => hset _ _ _ (hset _ _ _ (hset _ _ _ (hset _ _ _ (hset _ _ _ (hset _ _ _ h)))))
    have gset : ∀ (W : World) (k : Nat) (v : Value), w.grownBy W none → w.grownBy (W.setCell ⟨w.heap.size + 1 + 1, k, none⟩ v) none := fun W k v h => ⟨h.os, h.tape, h.output, by rw [World.size_setCell]; exact h.size, fun i hi hne => (Go.RowKit.Below.heap_setCell W ⟨w.heap.size + 1 + 1, k, none⟩ v i (by show i ≠ w.heap.size + 1 + 1; omega)).trans (h.block i hi hne)⟩
    go_enter Tryd.func28, Tryd.ntmps28
    go_wp2
    go_region
    go_wp2
    all_goals go_region_law (go_simp; go_at_call 38; refine (hcm _ _ _ _ _ _ _ _ _ _ _).mono ?_; rintro e W5 ⟨rfl, r5, d5, a5, s5, t5, z5, m5, g5⟩)
    all_goals go_wp2
    all_goals first | (go_region; go_end0; exact ⟨rfl, put_fin (by repeat (first | with_reducible exact m5 | with_reducible refine (hdr _).2 ?_ | with_reducible refine hset _ _ _ ?_)) (by repeat (first | with_reducible exact g5 | with_reducible refine gdr _ ?_ | with_reducible refine gset _ _ _ ?_)) hn hs (by clear hcm hlk hlk2 f1 f2 f4 f5 hG4 hM4 hg4 hdr hup gdr r5 d5 a5 s5 t5 z5 m5 g5 hset hset6 gset; simp_all [Def1.put, rankOf] <;> (intro hh; omega))⟩) | (go_region; all_goals go_wp2; all_goals go_region; all_goals go_end0; all_goals exact ⟨rfl, put_fin (by repeat (first | with_reducible exact m5 | with_reducible refine (hdr _).2 ?_ | with_reducible refine hset _ _ _ ?_)) (by repeat (first | with_reducible exact g5 | with_reducible refine gdr _ ?_ | with_reducible refine gset _ _ _ ?_)) hn hs (by clear hcm hlk hlk2 f1 f2 f4 f5 hG4 hM4 hg4 hdr hup gdr r5 d5 a5 s5 t5 z5 m5 g5 hset hset6 gset; simp_all [Def1.put, rankOf] <;> (intro hh; omega))⟩)
/-- One more definition. -/
theorem put_calls (w : World) (hG : GlobW w) (bt b1 n : Nat) (M : DataW Unit) (h0 : w.cell? ⟨bt, 0, none⟩ = some (.map (some b1))) (hM : w.ownsMap Tryd.prog 9 defR b1 n M) (hn : n < maxLen) (nm : ByteArray) (hs : nm.size ≤ maxLen)
    (bd : Int) (hd : Bool) (wh va sz ob sy : Int) (d : Def1) (hat : M.atKey (strK nm) Def1.zero.d = d.d) :
    Calls Tryd.prog 28 #[.pointer (some ⟨bt, 0, none⟩), .agg #[.string nm, .int .u8 bd, .bool hd, .int .i64 wh, .int .i64 va, .int .i64 sz], .agg #[.int .i64 ob, .int .i64 sy]] w fun e W' =>
      e = .returned (.tuple #[]) ∧ W'.ownsMap Tryd.prog 9 defR b1 (n + 1) (M.put (strK nm) (d.put bd wh va sz ob sy).d) ∧ w.grownBy W' (some b1) := by
  cases his : d.is with
  | false => exact put_f w hG bt b1 n M h0 hM hn nm hs bd hd wh va sz ob sy d his hat
  | true => exact put_t w hG bt b1 n M h0 hM hn nm hs bd hd wh va sz ob sy d his hat
end Go.Proofs.YtacfehneeanlgaaDoor.Ev
