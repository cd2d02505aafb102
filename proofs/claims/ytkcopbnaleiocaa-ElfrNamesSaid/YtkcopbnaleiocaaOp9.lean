/- What the evaluator's operations write stands for what the model's operations leave: append. -/
import Derived.Test.YtkcopbnaleiocaaOp8
import Derived.Laws.AppendOwn
namespace Go.Proofs.Ytkcopbnaleiocaa.Ev
open Go
set_option linter.unusedVariables false
set_option linter.unusedSimpArgs false
section
variable {P : Program} {I : Info} {g0 g : Gh} {w0 w : World} {σ : St} {a : Act} {N : Nat} {o : Oper} {ops : List Oper} {next : Act → World → Prop} {Q : Exit → Act → World → Prop} {ws : List W} {b : Bool}

/-! ### Rows of cells, flat -/
/-- Values that stand, flat, for rows. -/
def RowVals (st : Nat → Nat → Prop) (w : World) (cts : List CT) (xs : List (List D)) (us : List Value) : Prop :=
  us.length = xs.length * cts.length ∧ ∀ i j c, i < xs.length → cts[j]? = some c → ∃ u, us[i * cts.length + j]? = some u ∧ DRel st w c ((xs.getD i []).getD j default) u
theorem RowVals.mono {st st' : Nat → Nat → Prop} {w w' : World} (h : ∀ b o c, st b o → w.cell? (pl b o) = some c → st' b o ∧ w'.cell? (pl b o) = some c) {cts : List CT} {xs : List (List D)} {us : List Value} (hr : RowVals st w cts xs us) : RowVals st' w' cts xs us :=
  ⟨hr.1, fun i j c hi hj => let ⟨u, h1, h2⟩ := hr.2 i j c hi hj; ⟨u, h1, h2.mono h⟩⟩
theorem RowVals.append {st : Nat → Nat → Prop} {w : World} {cts : List CT} {xs ys : List (List D)} {us vs : List Value} (h : RowVals st w cts xs us) (k : RowVals st w cts ys vs) : RowVals st w cts (xs ++ ys) (us ++ vs) := by
  refine ⟨by rw [List.length_append, List.length_append, h.1, k.1, Nat.add_mul], fun i j c hi hj => ?_⟩
  have hjl : j < cts.length := (List.getElem?_eq_some_iff.1 hj).1
  by_cases hlt : i < xs.length
  · obtain ⟨u, h1, h2⟩ := h.2 i j c hlt hj
    refine ⟨u, ?_, ?_⟩
    · rw [List.getElem?_append_left (List.getElem?_eq_some_iff.1 h1).1]; exact h1
    · simpa [List.getD, List.getElem?_append_left hlt] using h2
  · rw [List.length_append] at hi
    obtain ⟨u, h1, h2⟩ := k.2 (i - xs.length) j c (by omega) hj
    refine ⟨u, ?_, ?_⟩
    · rw [List.getElem?_append_right (by rw [h.1]; exact Nat.le_trans (Nat.mul_le_mul_right _ (Nat.le_of_not_lt hlt)) (Nat.le_add_right _ _)), h.1]
      rw [show i * cts.length + j - xs.length * cts.length = (i - xs.length) * cts.length + j by rw [Nat.sub_mul]; have := Nat.mul_le_mul_right cts.length (Nat.le_of_not_lt hlt); omega]
      exact h1
    · simpa [List.getD, List.getElem?_append_right (Nat.le_of_not_lt hlt)] using h2
theorem RowVals.drel {st : Nat → Nat → Prop} {w : World} {cts : List CT} {xs : List (List D)} {us : List Value} (h : RowVals st w cts xs us) {b q cap : Nat} (hn : xs.length ≤ cap) (hm : cap ≤ maxLen) (hc : ∀ p u, us[p]? = some u → st b (q + p) ∧ w.cell? (pl b (q + p)) = some u) :
    DRel st w (.arr cts) (.arr xs) (.slice (some (pl b q)) xs.length cap) := by
  have key : ∀ i j, i < xs.length → j < cts.length → ∃ u, us[i * cts.length + j]? = some u := by
    intro i j hi hj
    obtain ⟨u, h1, _⟩ := h.2 i j _ hi (List.getElem?_eq_getElem hj)
    exact ⟨u, h1⟩
  refine DRel.arr cts (.arr xs) b q cap (fun i j => (us[i * cts.length + j]?).getD undef) hn hm (fun i j hi hj => ?_) (fun i j c hi hj => ?_)
  · obtain ⟨u, hu⟩ := key i j hi hj
    rw [hu, Nat.add_assoc]
    exact hc _ u hu
  · obtain ⟨u, h1, h2⟩ := h.2 i j c hi hj
    rw [h1]
    exact h2
theorem rowVals_of {st : Nat → Nat → Prop} {w : World} {cts : List CT} {xs : List (List D)} {b q cap : Nat} (h : DRel st w (.arr cts) (.arr xs) (.slice (some (pl b q)) xs.length cap)) : ∃ us, RowVals st w cts xs us ∧ ∀ p u, us[p]? = some u → st b (q + p) ∧ w.cell? (pl b (q + p)) = some u := by
  generalize hd : D.arr xs = d at h
  generalize hv : Value.slice (some (pl b q)) xs.length cap = v at h
  cases h with
  | nil _ _ p h3 =>
    subst hd
    have hx : xs = [] := h3
    subst hx
    exact ⟨[], ⟨by simp, fun i j c hi => absurd hi (by simp)⟩, fun p u hp => by simp at hp⟩
  | arr _ _ b' q0 cap' f hn hm hc hd' =>
    simp only [Value.slice.injEq, Option.some.injEq, Addr.mk.injEq, and_true] at hv
    obtain ⟨⟨rfl, rfl⟩, -, rfl⟩ := hv
    subst hd
    have hl : ((List.range (xs.length * cts.length)).map fun p => f (p / cts.length) (p % cts.length)).length = xs.length * cts.length := by simp
    refine ⟨(List.range (xs.length * cts.length)).map fun p => f (p / cts.length) (p % cts.length), ⟨hl, fun i j c hi hj => ?_⟩, fun p u hp => ?_⟩
    · have hjl : j < cts.length := (List.getElem?_eq_some_iff.1 hj).1
      have hlt : i * cts.length + j < xs.length * cts.length := by
        have := Nat.mul_le_mul_right cts.length (show i + 1 ≤ xs.length from hi)
        rw [Nat.add_mul] at this
        omega
      refine ⟨f i j, ?_, hd' i j c hi hj⟩
      rw [List.getElem?_map, List.getElem?_range hlt]
      simp only [Option.map_some]
      rw [Nat.mul_comm, Nat.mul_add_div (by omega), Nat.div_eq_of_lt hjl, Nat.add_zero, Nat.mul_add_mod, Nat.mod_eq_of_lt hjl]
    · obtain ⟨hlt, _⟩ := List.getElem?_eq_some_iff.1 hp
      rw [hl] at hlt
      rw [List.getElem?_map, List.getElem?_range hlt] at hp
      simp only [Option.map_some, Option.some.injEq] at hp
      subst hp
      have h0 : 0 < cts.length := by
        rcases Nat.eq_zero_or_pos cts.length with h0 | h0
        · rw [h0] at hlt; omega
        · exact h0
      have := hc (p / cts.length) (p % cts.length) (Nat.div_lt_of_lt_mul (by rw [Nat.mul_comm]; exact hlt)) (Nat.mod_lt _ h0)
      rw [Nat.add_assoc, Nat.mul_comm, Nat.div_add_mod] at this
      exact this

/-! ### Running append -/
theorem append_room {t e ty t2 : TypeId} {i : TypeInfo} {d2 : TypeDesc} (ht : P.underlying t = some (.slice e)) (hi : P.info? e = some i) (h2 : P.underlying t2 = some d2) (hni : ∀ k, d2 ≠ .int k) {b q n cap m : Nat} {x : Value} {news : List Value} (hl : ∀ w : World, (Builtin.lenOf x).run P w = .ok m w)
    (hf : (Builtin.firstCells i.size m x).run P w = .ok news.toArray w) (hroom : n + m ≤ cap) {w' : World} (hst : (storeCells (pl b (q + n * i.size)) news).run P w = .ok () w') :
    (Builtin.append_ #[t, t2] ty #[.slice (some (pl b q)) n cap, x]).run P w = .ok (.slice (some (pl b q)) (n + m) cap) w' := by
  have hd : (match d2 with | .int _ => true | _ => false) = false := by cases d2 <;> first | rfl | exact absurd rfl (hni _)
  simp [Builtin.append_, und_run ht, und_run h2, size_run hi, hl, hf, hroom, pl_add]
  cases d2 <;> first | (simp [hl, hf, hroom, pl_add, hst]; done) | exact absurd rfl (hni _)
theorem append_none {t e ty t2 : TypeId} {i : TypeInfo} {d2 : TypeDesc} (ht : P.underlying t = some (.slice e)) (hi : P.info? e = some i) (h2 : P.underlying t2 = some d2) (hni : ∀ k, d2 ≠ .int k) {x : Value} (hl : ∀ w : World, (Builtin.lenOf x).run P w = .ok 0 w)
    (hf : (Builtin.firstCells i.size 0 x).run P w = .ok #[] w) (p : Option Addr) : (Builtin.append_ #[t, t2] ty #[.slice p 0 0, x]).run P w = .ok (.slice p 0 0) w := by
  cases p with
  | none =>
    simp [Builtin.append_, und_run ht, und_run h2, size_run hi]
    cases d2 <;> first | (simp [hl, hf]; done) | exact absurd rfl (hni _)
  | some q =>
    simp [Builtin.append_, und_run ht, und_run h2, size_run hi]
    cases d2 <;> first | (simp [hl, hf, storeCells]; done) | exact absurd rfl (hni _)
theorem append_grow {t e ty t2 : TypeId} {i : TypeInfo} {z : Value} {d2 : TypeDesc} (ht : P.underlying t = some (.slice e)) (hi : P.info? e = some i) (hz : i.zero = some z) (h2 : P.underlying t2 = some d2) (hni : ∀ k, d2 ≠ .int k) {base : Option Addr} {n cap m : Nat} {x : Value} {olds news : List Value} (hl : ∀ w : World, (Builtin.lenOf x).run P w = .ok m w)
    (hfo : (Builtin.firstCells i.size n (.slice base n cap)).run P w.drew = .ok olds.toArray w.drew) (hf : (Builtin.firstCells i.size m x).run P w.drew = .ok news.toArray w.drew) (hg : cap < n + m) (h63 : ((n + m : Nat) : Int) ≤ 9223372036854775807) (hfit : Builtin.nextslicecap (n + m) cap * i.bytes ≤ 281474976710656) :
    (Builtin.append_ #[t, t2] ty #[.slice base n cap, x]).run P w = .ok (.slice (some (pl w.heap.size 0)) (n + m) (grownCap w (n + m) cap e)) (w.drew.alloc (.cells (olds.toArray ++ news.toArray ++ Builtin.zeroCells z.cells (grownCap w (n + m) cap e - (n + m))) e)) := by
  have hn : ¬ (n + m ≤ cap) := by omega
  have h63' : ¬ (9223372036854775807 < ((n : Int) + (m : Int))) := by omega
  have h48' : ¬ (281474976710656 < Builtin.nextslicecap (n + m) cap * i.bytes) := by omega
  simp [Builtin.append_, und_run ht, und_run h2, size_run hi]
  cases d2 <;> first
    | (simp [hl, hn, h63', h48', Question.forced, hf, hfo, newRow, grownCap, typeInfo, zeroValue, hi, hz]
       congr 2
       apply Array.ext'
       simp [List.append_assoc]
       done)
    | exact absurd rfl (hni _)

/-! ### The world behind -/
theorem setCells_heap (b : Nat) : ∀ (vs : List Value) (q : Nat) (w : World) (b' : Nat), b' ≠ b → (w.setCells b q vs).heap[b']? = w.heap[b']?
  | [], _, _, _, _ => rfl
  | v :: vs, q, w, b', h => by rw [World.setCells, setCells_heap b vs _ _ b' h, setCell_heap, if_neg (fun e => h e.symm)]
theorem setCells_block (b : Nat) (e : TypeId) (fz : Nat × Nat) : ∀ (vs : List Value) (q : Nat) (w : World) (cur : Array Value), w.heap[b]? = some (.cells cur e fz) → q + vs.length ≤ cur.size →
    ∃ cur', (w.setCells b q vs).heap[b]? = some (.cells cur' e fz) ∧ cur'.size = cur.size ∧ (∀ p, p < q → cur'[p]? = cur[p]?) ∧ (∀ p u, vs[p]? = some u → cur'[q + p]? = some u) ∧ (∀ p, q + vs.length ≤ p → cur'[p]? = cur[p]?)
  | [], q, w, cur, h, _ => ⟨cur, h, rfl, fun _ _ => rfl, fun p u hu => by simp at hu, fun _ _ => rfl⟩
  | v :: vs, q, w, cur, h, hl => by
    simp only [List.length_cons] at hl
    obtain ⟨cur', h1, h2, h3, h4, h5⟩ := setCells_block b e fz vs (q + 1) (w.setCell (pl b q) v) (cur.setIfInBounds q v) (by rw [setCell_heap, if_pos rfl, h]; rfl) (by simp; omega)
    refine ⟨cur', h1, by rw [h2]; simp, fun p hp => ?_, fun p u hu => ?_, fun p hp => ?_⟩
    · rw [h3 p (by omega), Array.getElem?_setIfInBounds_ne (by omega)]
    · cases p with
      | zero =>
        simp at hu
        subst hu
        rw [h3 (q + 0) (by omega), Nat.add_zero, Array.getElem?_setIfInBounds_self, if_pos (by omega)]
      | succ p =>
        have := h4 p u (by simpa using hu)
        rw [show q + (p + 1) = q + 1 + p by omega]
        exact this
    · simp only [List.length_cons] at hp
      rw [h5 p (by omega), Array.getElem?_setIfInBounds_ne (by omega)]
theorem setCells_same (b : Nat) : ∀ (vs : List Value) (q : Nat) (w : World), (w.setCells b q vs).os = w.os ∧ (w.setCells b q vs).tape = w.tape ∧ (w.setCells b q vs).output = w.output ∧ (w.setCells b q vs).heap.size = w.heap.size
  | [], _, _ => ⟨rfl, rfl, rfl, rfl⟩
  | v :: vs, q, w => by
    obtain ⟨h1, h2, h3, h4⟩ := setCells_same b vs (q + 1) (w.setCell (pl b q) v)
    exact ⟨h1, h2, h3, by rw [World.setCells, h4]; simp [World.setCell]⟩
theorem Rep.extend (h : Rep g0 w0 g w σ a N) {s d b L L' : Nat} {cur : Array Value} {e : TypeId} {fz : Nat × Nat} {vs : List Value} (ho : g.own b = .arr (.tmp s) L) (hb : w.heap[b]? = some (.cells cur e fz)) (hL : L + vs.length ≤ cur.size) (hLL : L ≤ L') (hs : ∀ u, σ.tmp s = some u → u.plain) :
    Rep g0 w0 (g.set b (.arr (.tmp d) L')) (w.setCells b L vs) σ a N ∧ (∀ b' o c, g.stable b' o → w.cell? (pl b' o) = some c → (g.set b (.arr (.tmp d) L')).stable b' o ∧ (w.setCells b L vs).cell? (pl b' o) = some c) := by
  obtain ⟨cur', hc1, hc2, hc3, hc4, hc5⟩ := setCells_block b e fz vs L w cur hb hL
  obtain ⟨s1, s2, s3, s4⟩ := setCells_same b vs L w
  refine h.change ho s1 s2 s3 s4 (fun b' hb' => setCells_heap b vs L w b' hb') (fun o c h1' h2 => ?_) hLL hs
  simp only [World.cell?, hb] at h2
  simp only [World.cell?, hc1]
  rw [← h2]
  simpa using hc3 o h1'
end
end Go.Proofs.Ytkcopbnaleiocaa.Ev
