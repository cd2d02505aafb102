/- What a law is handed reads as the evaluator's data, for every program; what kinds the cells of a type are is worked out. Structs that a law is handed. -/
import Derived.Test.YtacfehneeanlgaaDoorInfo
import Derived.SizedLaws
import Derived.ChangeSlices
import Derived.ChangeArms
import Derived.ChangeSame
namespace Go.Proofs.YtacfehneeanlgaaDoor.Ev
open Go Go.ChangeShapes Go.WideShapes Go.RowKit
set_option linter.unusedVariables false
set_option linter.unusedSimpArgs false

/-- Data that may be handed to a law. -/
inductive Good : CT → D → Prop
  | int (k : IntKind) (n : Int) (h : (Lit.int k n).wf = true) : Good (.int k) (.int n)
  | bool (b : Bool) : Good .bool (.bool b)
  | str (s : ByteArray) (h : s.size ≤ 140737488351232) : Good .str (.str s)
  | arr (cs : List CT) (xs : List (List D)) (hl : xs.length ≤ 140737488351232) (hn : ∀ e ∈ xs, e.length = cs.length) (h : ∀ e ∈ xs, ∀ (j : Nat) (c : CT), cs[j]? = some c → Good c (e.getD j default)) : Good (.arr cs) (.arr xs)
abbrev allSt : Nat → Nat → Prop := fun _ _ => True
/-- Cells read as data. -/
def Reads (w : World) (cts : List CT) (ds : List D) (cs : List Value) : Prop :=
  ds.length = cts.length ∧ cs.length = cts.length ∧ ∀ (j : Nat) (c : CT) (v : Value), cts[j]? = some c → cs[j]? = some v → DRel allSt w c (ds.getD j default) v ∧ Good c (ds.getD j default)
/-- Values of a type read as cells of these kinds. -/
structure Opn (P : Program) (cts : List CT) (t : TypeId) : Prop where
  cells : P.cellsOf t = cts.length
  opened : ∀ {H : Type} {enc : TypeId × Value → H} {w : World} {base : Nat} {held : Bool} {fuel : Nat} {cs : List Value} {D : DataW H} {ps : List MemPlace}, DataW.trod enc P w base (fun _ => true) held fuel t cs = some (D, ps) → (∀ n ∈ D.weights P t, n ≤ reachBytes) → ∃ ds, Reads w cts ds cs
section
variable {P : Program} {t e : TypeId}
theorem opn_one {ct : CT} {v : Value} {d : D} {w : World} (h1 : DRel allSt w ct d v) (h2 : Good ct d) : Reads w [ct] [d] [v] := by
  refine ⟨rfl, rfl, fun j c v' hc hv => ?_⟩
  match j with
  | 0 => simp only [List.getElem?_cons_zero, Option.some.injEq] at hc hv; subst hc; subst hv; exact ⟨h1, h2⟩
  | j + 1 => simp at hc
theorem opn_int {k : IntKind} (ht : P.underlying t = some (.int k)) (hc : P.cellsOf t = 1) : Opn P [.int k] t :=
  ⟨hc, fun h _ => by obtain ⟨n, rfl, _, hw⟩ := DataW.trod_int ht h; exact ⟨[.int n], opn_one (.int k (.int n)) (.int k n hw)⟩⟩
theorem opn_bool (ht : P.underlying t = some .bool) (hc : P.cellsOf t = 1) : Opn P [.bool] t :=
  ⟨hc, fun h _ => by obtain ⟨b, rfl, _⟩ := DataW.trod_bool ht h; exact ⟨[.bool b], opn_one (.bool (.bool b)) (.bool b)⟩⟩
theorem opn_str (ht : P.underlying t = some .string) (hc : P.cellsOf t = 1) : Opn P [.str] t :=
  ⟨hc, fun h hw => by
    obtain ⟨s, rfl, hx, _⟩ := DataW.trod_string ht h
    cases hx
    have := hw s.data.toList.length (by simp [DataW.weights])
    exact ⟨[.str s], opn_one (.str (.str s)) (.str s (by simpa [reachBytes] using this))⟩⟩
theorem list_of_each {α : Type} {p : Nat → α → Prop} : ∀ (n : Nat), (∀ i, i < n → ∃ x, p i x) → ∃ xs : List α, xs.length = n ∧ ∀ i x, xs[i]? = some x → p i x
  | 0, _ => ⟨[], rfl, fun i x h => by simp at h⟩
  | n + 1, h => by
    obtain ⟨xs, hl, hx⟩ := list_of_each n (fun i hi => h i (by omega))
    obtain ⟨y, hy⟩ := h n (by omega)
    refine ⟨xs ++ [y], by simp [hl], fun i x hi => ?_⟩
    by_cases hlt : i < n
    · rw [List.getElem?_append_left (by omega)] at hi
      exact hx i x hi
    · obtain ⟨hi2, rfl⟩ := List.getElem?_eq_some_iff.1 hi
      simp [hl] at hi2
      have : i = n := by omega
      subst this
      simpa [hl] using hy
theorem add_add' (a : Addr) (i j : Nat) : (a.add i).add j = a.add (i + j) := by
  unfold Addr.add
  by_cases h1 : i = 0 <;> by_cases h2 : j = 0 <;> simp [h1, h2, Nat.add_assoc]
theorem weightsAll_mem {H : Type} {d : DataW H} {n : Nat} : ∀ {ds : List (DataW H)}, d ∈ ds → n ∈ d.weights P e → n ∈ DataW.weightsAll P e ds
  | d0 :: ds, hd, hn => by
    simp only [DataW.weightsAll, List.mem_append]
    rcases List.mem_cons.1 hd with rfl | hd
    · exact .inl hn
    · exact .inr (weightsAll_mem hd hn)
/-- A place that bears a cell is a plain one. -/
theorem plain_of_cell {w : World} {a : Addr} {v : Value} (h : w.cell? a = some v) : a = pl a.block a.off := by
  obtain ⟨b, o, s⟩ := a
  cases s with
  | none => rfl
  | some s =>
    unfold World.cell? at h
    split at h <;> simp at h
theorem opn_slice {cts : List CT} (ht : P.underlying t = some (.slice e)) (hc : P.cellsOf t = 1) (hB : 1 ≤ P.bytesOf e) (hp : 0 < cts.length) (he : Opn P cts e) : Opn P [.arr cts] t := by
  refine ⟨hc, fun {H enc w base held fuel cs D ps} h hw => ?_⟩
  rcases DataW.trod_slice ht h with ⟨rfl, _⟩ | ⟨a, len, cap, elems, rest, n, rfl, rfl, hx, hb, hl, hm, hlen, hel, hsp, _⟩
  · exact ⟨[.arr []], opn_one (.nil _ _ _ rfl) (.arr _ _ (by simp) (by simp) (by simp))⟩
  · cases hx
    have hw0 := hw ((elems.map (·.1)).length + (rest.map (·.1)).length |> (· * P.bytesOf e)) (by simp [DataW.weights, ht])
    obtain ⟨hr1, hr2⟩ := hsp rfl
    by_cases hcap : cap = 0
    · subst hcap
      have : len = 0 := by omega
      subst this
      exact ⟨[.arr []], opn_one (.nil _ _ _ rfl) (.arr _ _ (by simp) (by simp) (by simp))⟩
    have ha : a = pl a.block a.off := by
      have first : ∀ (i : Nat) (y : DataW H × List MemPlace), (w.cells? base (a.add (0 * P.cellsOf e)) (P.cellsOf e)).bind (DataW.trod enc P w base (fun _ => true) held n e) = some y → a = pl a.block a.off := by
        intro i y hy
        obtain ⟨c, h1, h2⟩ := Option.bind_eq_some_iff.1 hy
        obtain ⟨_, hcl, hcell⟩ := World.cells?_some h1
        have hpos : 0 < P.cellsOf e := by rw [he.cells]; exact hp
        have h0 := hcell 0 hpos
        have e0 : (a.add (0 * P.cellsOf e)).add 0 = a := by simp [Addr.add]
        rw [e0] at h0
        rw [List.getElem?_eq_getElem (by omega)] at h0
        exact plain_of_cell h0
      by_cases hl0 : len = 0
      · subst hl0
        have h1 := hr2 0 (by omega)
        rw [List.getElem?_eq_getElem (by omega)] at h1
        exact first 0 _ h1
      · have h1 := hel 0 (by omega)
        rw [List.getElem?_eq_getElem (by omega)] at h1
        exact first 0 _ h1
    have each : ∀ i, i < len → ∃ x, (∃ c, Reads w cts x c ∧ ∀ j u, c[j]? = some u → w.cell? (a.add (i * cts.length + j)) = some u) := by
      intro i hi
      have hk := hel i hi
      rw [List.getElem?_eq_getElem (by omega)] at hk
      obtain ⟨c, h1, h2⟩ := Option.bind_eq_some_iff.1 hk
      obtain ⟨x, hK⟩ := he.opened (D := elems[i].1) (ps := elems[i].2) h2 (fun m hm' => hw m (by
        simp only [DataW.weights, ht, List.mem_cons, List.mem_append]
        exact .inr (.inl (weightsAll_mem (List.mem_map.2 ⟨elems[i], List.getElem_mem _, rfl⟩) hm'))))
      obtain ⟨_, hcl, hcell⟩ := World.cells?_some h1
      refine ⟨x, c, hK, fun j u hj => ?_⟩
      obtain ⟨hjl, _⟩ := List.getElem?_eq_some_iff.1 hj
      have := hcell j (by omega)
      rw [add_add', he.cells] at this
      rw [this, hj]
    obtain ⟨xs, hxl, hxs⟩ := list_of_each len each
    subst hxl
    have hcell : ∀ i j, i < xs.length → j < cts.length → ∃ v, w.cell? (pl a.block (a.off + i * cts.length + j)) = some v ∧ ∀ c, cts[j]? = some c → DRel allSt w c ((xs.getD i []).getD j default) v ∧ Good c ((xs.getD i []).getD j default) := by
      intro i j hi hj
      obtain ⟨c, ⟨h1, h2, h3⟩, h4⟩ := hxs i _ (List.getElem?_eq_getElem hi)
      have hj' : j < c.length := by omega
      have h5 := h4 j _ (List.getElem?_eq_getElem hj')
      refine ⟨c[j], ?_, fun ct hct => ?_⟩
      · rw [ha] at h5
        rw [← h5]
        congr 1
        rw [pl_add]
        simp [Nat.add_assoc]
      · have := h3 j ct _ hct (List.getElem?_eq_getElem hj')
        rw [List.getD_eq_getElem?_getD (l := xs), List.getElem?_eq_getElem hi]
        exact this
    refine ⟨[.arr xs], opn_one ?_ (.arr _ _ ?_ (fun x hx => ?_) (fun x hx j c hc => ?_))⟩
    · rw [ha]
      refine .arr cts (.arr xs) a.block a.off cap (fun i j => (w.cell? (pl a.block (a.off + i * cts.length + j))).getD undef) hl hm (fun i j hi hj => ⟨trivial, ?_⟩) (fun i j c hi hc => ?_)
      · obtain ⟨v, hv, _⟩ := hcell i j hi hj
        rw [hv]; rfl
      · have hj : j < cts.length := (List.getElem?_eq_some_iff.1 hc).1
        obtain ⟨v, hv, h2⟩ := hcell i j hi hj
        rw [hv]
        exact (h2 c hc).1
    · have h2 : xs.length * 1 ≤ (elems.length + rest.length) * P.bytesOf e := Nat.mul_le_mul (by omega) hB
      simp only [List.length_map] at hw0
      have := Nat.le_trans h2 hw0
      simpa [reachBytes] using this
    · obtain ⟨i, hi, rfl⟩ := List.getElem_of_mem hx
      obtain ⟨c, ⟨h1, _⟩, _⟩ := hxs i _ (List.getElem?_eq_getElem hi)
      exact h1
    · obtain ⟨i, hi, rfl⟩ := List.getElem_of_mem hx
      have hj : j < cts.length := (List.getElem?_eq_some_iff.1 hc).1
      obtain ⟨v, _, h2⟩ := hcell i j hi hj
      have := (h2 c hc).2
      rw [List.getD_eq_getElem?_getD (l := xs), List.getElem?_eq_getElem hi] at this
      exact this

/-- Fields from a place on. -/
structure OpnFrom (P : Program) (cts : List CT) (fs : List Field) (off : Nat) : Prop where
  opened : ∀ {H : Type} {enc : TypeId × Value → H} {w : World} {base : Nat} {held : Bool} {n : Nat} {cs : List Value} {xs : List (DataW H × List MemPlace)}, cs.length = off + cts.length → xs.length = fs.length →
    (∀ (i : Nat) (f : Field), fs[i]? = some f → DataW.trod enc P w base (fun _ => true) held n f.type ((cs.drop f.offset).take (P.cellsOf f.type)) = xs[i]?) → (∀ m ∈ DataW.weightsEach P (fs.map (·.type)) (xs.map (·.1)), m ≤ reachBytes) → ∃ ds, Reads w cts ds (cs.drop off)
theorem from_nil {off : Nat} : OpnFrom P [] [] off := by
  refine ⟨fun {H enc w base held n cs xs} hl hx hf hw => ⟨[], rfl, by simp at hl; simp [hl], fun j c v hc => by simp at hc⟩⟩
theorem Reads.append {w : World} {c1 c2 : List CT} {d1 d2 : List D} {v1 v2 : List Value} (h1 : Reads w c1 d1 v1) (h2 : Reads w c2 d2 v2) : Reads w (c1 ++ c2) (d1 ++ d2) (v1 ++ v2) := by
  obtain ⟨a1, a2, a3⟩ := h1
  obtain ⟨b1, b2, b3⟩ := h2
  refine ⟨by simp [a1, b1], by simp [a2, b2], fun j c v hc hv => ?_⟩
  by_cases hj : j < c1.length
  · rw [List.getElem?_append_left hj] at hc
    rw [List.getElem?_append_left (by omega)] at hv
    have := a3 j c v hc hv
    rw [List.getD_eq_getElem?_getD, List.getElem?_append_left (by omega), ← List.getD_eq_getElem?_getD]
    exact this
  · rw [List.getElem?_append_right (by omega)] at hc hv
    rw [a2] at hv
    have := b3 _ c v hc hv
    rw [List.getD_eq_getElem?_getD, List.getElem?_append_right (by omega), a1, ← List.getD_eq_getElem?_getD]
    exact this
theorem from_cons {c1 c2 : List CT} {f : Field} {fs : List Field} {off : Nat} (ho : f.offset = off) (h : Opn P c1 f.type) (h' : OpnFrom P c2 fs (off + c1.length)) : OpnFrom P (c1 ++ c2) (f :: fs) off := by
  refine ⟨fun {H enc w base held n cs xs} hl hx hf hw => ?_⟩
  match xs, hx with
  | x :: xs, hx =>
    rw [List.length_append] at hl
    have h1 := hf 0 f rfl
    rw [ho, h.cells] at h1
    obtain ⟨y, hy⟩ := h.opened (D := x.1) (ps := x.2) h1 (fun m hm => hw m (by simp only [List.map_cons, DataW.weightsEach, List.mem_append]; exact .inl hm))
    obtain ⟨z, hz⟩ := h'.opened (cs := cs) (xs := xs) (by omega) (by simpa using hx) (fun i g hg => by have := hf (i + 1) g (by simpa using hg); simpa using this) (fun m hm => hw m (by simp only [List.map_cons, DataW.weightsEach, List.mem_append]; exact .inr hm))
    refine ⟨y ++ z, ?_⟩
    rw [← List.take_append_drop c1.length (cs.drop off), List.drop_drop]
    exact hy.append hz
theorem opn_struct {cts : List CT} {fs : Array Field} (ht : P.underlying t = some (.struct fs)) (hc : P.cellsOf t = cts.length) (h : OpnFrom P cts fs.toList 0) : Opn P cts t := by
  refine ⟨hc, fun {H enc w base held fuel cs D ps} hx hw => ?_⟩
  obtain ⟨xs, n, rfl, hx, hl, hn, hf⟩ := DataW.trod_struct ht hx
  cases hx
  obtain ⟨x, hK⟩ := h.opened (cs := cs) (xs := xs) (by omega) (by simpa using hn) (fun i f hi => hf i f (by simpa using hi)) (fun m hm => hw m (by simpa [DataW.weights, ht] using hm))
  exact ⟨x, by simpa using hK⟩

/-- What kinds the cells of a type are, if what is needed is so. -/
def argCts (P : Program) : Nat → TypeId → Option (List CT)
  | 0, _ => none
  | n + 1, t => match P.underlying t with
    | some (.int k) => if P.cellsOf t = 1 then some [.int k] else none
    | some .bool => if P.cellsOf t = 1 then some [.bool] else none
    | some .string => if P.cellsOf t = 1 then some [.str] else none
    | some (.slice e) => match argCts P n e with
      | some c => if P.cellsOf t = 1 ∧ 1 ≤ P.bytesOf e ∧ 0 < c.length then some [.arr c] else none
      | none => none
    | some (.struct fs) => match each (argCts P n) 0 fs.toList with
      | some c => if P.cellsOf t = c.length then some c else none
      | none => none
    | _ => none
where each (f : TypeId → Option (List CT)) (off : Nat) : List Field → Option (List CT)
  | [] => some []
  | x :: xs => match f x.type with
    | some a => if x.offset = off then match each f (off + a.length) xs with | some b => some (a ++ b) | none => none else none
    | none => none
theorem each_ok {n : Nat} (ih : ∀ t cts, argCts P n t = some cts → Opn P cts t) : ∀ (fs : List Field) (off : Nat) (cts : List CT), argCts.each (argCts P n) off fs = some cts → OpnFrom P cts fs off
  | [], off, cts, h => by cases h; exact from_nil
  | f :: fs, off, cts, h => by
    unfold argCts.each at h
    split at h
    · rename_i a ha
      split at h
      · rename_i ho
        split at h
        · rename_i b hb
          cases h
          exact from_cons ho (ih _ _ ha) (each_ok ih fs _ _ hb)
        · cases h
      · cases h
    · cases h
theorem argCts_ok : ∀ (n : Nat) (t : TypeId) (cts : List CT), argCts P n t = some cts → Opn P cts t
  | 0, t, cts, h => by cases h
  | n + 1, t, cts, h => by
    unfold argCts at h
    split at h
    · rename_i k hu
      split at h
      · rename_i hc; cases h; exact opn_int hu hc
      · cases h
    · rename_i hu
      split at h
      · rename_i hc; cases h; exact opn_bool hu hc
      · cases h
    · rename_i hu
      split at h
      · rename_i hc; cases h; exact opn_str hu hc
      · cases h
    · rename_i e hu
      split at h
      · rename_i c hcc
        split at h
        · rename_i hc; cases h; exact opn_slice hu hc.1 hc.2.1 hc.2.2 (argCts_ok n _ _ hcc)
        · cases h
      · cases h
    · rename_i fs hu
      split at h
      · rename_i c hcc
        split at h
        · rename_i hc; cases h; exact opn_struct hu hc (each_ok (argCts_ok n) _ _ _ hcc)
        · cases h
      · cases h
    · cases h
end
section
variable {H : Type} {enc : TypeId × Value → H} {P : Program} {W : World}
/-- An argument of a law, opened. -/
theorem opened_arg {base : Nat} {held : Bool} {t : TypeId} {cts : List CT} {v : Value} {D : DataW H} {ps : List MemPlace} {ts : List TypeId} {ds : List (DataW H)} {j : Nat} (ho : argCts P 20 t = some cts)
    (hsz : (DataW.weightsEach P ts ds).all (· ≤ reachBytes) = true) (ht : ts[j]? = some t) (hd : ds[j]? = some D) (h : DataW.Trod enc P W base (fun _ => true) held t v D ps) : ∃ x, Reads W cts x v.cells.toList := by
  obtain ⟨fuel, hf⟩ := h
  exact (argCts_ok _ _ _ ho).opened hf (fun n hn => by have := List.all_eq_true.1 hsz _ (DataW.weights_mem_each ht hd n hn); simpa using this)
theorem gNone_stable : gNone.stable = allSt := by funext b o; simp [Gh.stable, gNone, Perm.stable]
/-- A slice that a law is handed. -/
theorem arg_slice {cts : List CT} {c : Value} {x : List D} (hc : c.cells = #[c]) (h : Reads W [.arr cts] x c.cells.toList) : ∃ xs, Good (.arr cts) (.arr xs) ∧ ∀ s, VRel gNone W s (.arr cts xs) c := by
  obtain ⟨h1, h2, h3⟩ := h
  rw [hc] at h3
  match x, h1 with
  | [d], _ =>
    have := h3 0 (.arr cts) c rfl rfl
    simp only [List.getD_cons_zero] at this
    obtain ⟨h4, h5⟩ := this
    cases h5 with
    | arr _ xs hl hn h => exact ⟨xs, .arr _ xs hl hn h, fun s => .arr s cts xs c (by rw [gNone_stable]; exact h4)⟩
/-- From a law's contract: it returns its answer, and what was there is as it was. -/
theorem law_of_contract {f : Nat} {vs : List V} {w : World} {cargs : Array Value} {v : Value} (h : Contract P f vs [] (.val v, [])) (hl : cargs.size = vs.length)
    (ha : ∀ (i : Nat) (v : V), vs[i]? = some v → ∃ c, cargs[i]? = some c ∧ VRel gNone w (.tmp i) v c) (hgl : GlobOk gNone w) : Calls P f cargs w fun e w' => e = .returned v ∧ Go.RowKit.Below w.heap.size w w' := by
  refine (h gNone w cargs ⟨hl, ha, fun i cs hi => by simp at hi, fun _ _ => rfl, fun _ => rfl, fun _ => rfl, fun _ => rfl, fun i b hb => (nomatch hb), fun b r l _ ho => (nomatch ho), hgl⟩).mono fun e w' ⟨c, g', he, q1, q2, q3, q4, q5, q6⟩ => ?_
  have := val_inv q1
  subst this
  exact ⟨he, q5.os, q5.tape, q5.output, q5.size, fun k hk => (q5.free k hk rfl).1⟩
end
end Go.Proofs.YtacfehneeanlgaaDoor.Ev
namespace Go.Proofs.YtacfehneeanlgaaDoor.Ev
open Go Go.ChangeShapes Go.WideShapes Go.RowKit
set_option linter.unusedVariables false
set_option linter.unusedSimpArgs false
/-- What a struct's cell is, to the evaluator. -/
def vOf : CT → D → V
  | .int k, d => .val (.int k d.toInt)
  | .bool, d => .val (.bool d.toBool)
  | .str, d => .val (.string d.toStr)
  | .fn, d => .val (.func (.func d.toInt.toNat) #[] #[])
  | .arr cs, d => .arr cs d.toArr
theorem vOf_rel {W : World} {c : CT} {d : D} {v : Value} (h : DRel allSt W c d v) : VRel gNone W .none (vOf c d) v ∧ (vOf c d).cellP := by
  rw [← gNone_stable] at h
  cases h with
  | int k d => exact ⟨.val _ _, trivial⟩
  | bool d => exact ⟨.val _ _, trivial⟩
  | str d => exact ⟨.val _ _, trivial⟩
  | fn d => exact ⟨.val _ _, trivial⟩
  | nil cs d p h => exact ⟨.arr _ _ _ _ (.nil cs _ p h), trivial⟩
  | arr cs d b o cap f hn hm hc hd => exact ⟨.arr _ _ _ _ (.arr cs (.arr d.toArr) b o cap f hn hm hc hd), trivial⟩
theorem zipWith_get {α β γ : Type} (f : α → β → γ) : ∀ (l : List α) (m : List β) (i : Nat) (c : γ), (List.zipWith f l m)[i]? = some c → ∃ a b, l[i]? = some a ∧ m[i]? = some b ∧ c = f a b
  | [], _, i, c, h => by simp at h
  | _ :: _, [], i, c, h => by simp at h
  | a :: l, b :: m, 0, c, h => by simp at h; exact ⟨a, b, rfl, rfl, h.symm⟩
  | a :: l, b :: m, i + 1, c, h => by simpa using zipWith_get f l m i c (by simpa using h)
theorem arg_agg {W : World} {cts : List CT} {x : List D} {cs : Array Value} (h : Reads W cts x cs.toList) (s : Slot) : VRel gNone W s (.agg (List.zipWith vOf cts x)) (.agg cs) := by
  obtain ⟨h1, h2, h3⟩ := h
  have rel : ∀ (i : Nat) (v : V), (List.zipWith vOf cts x)[i]? = some v → ∃ c, cs[i]? = some c ∧ VRel gNone W .none v c ∧ v.cellP := by
    intro i v hv
    obtain ⟨a, b, ha, hb, rfl⟩ := zipWith_get _ _ _ _ _ hv
    have hi : i < cs.toList.length := by rw [h2]; exact (List.getElem?_eq_some_iff.1 ha).1
    have h4 := (h3 i a _ ha (List.getElem?_eq_getElem hi)).1
    rw [List.getD_eq_getElem?_getD, hb] at h4
    have h5 := vOf_rel h4
    refine ⟨cs.toList[i], ?_, h5.1, h5.2⟩
    rw [← Array.getElem?_toList, List.getElem?_eq_getElem hi]
  refine .agg s _ _ ?_ (fun i v hv => ?_) (fun i v c hv hc => ?_)
  · rw [List.length_zipWith, h1, Nat.min_self, ← h2, Array.length_toList]
  · obtain ⟨c, _, _, h6⟩ := rel i v hv; exact h6
  · obtain ⟨c', h4, h5, _⟩ := rel i v hv
    rw [h4] at hc; cases hc; exact h5
/-- A struct of four slices. -/
theorem arg_obj {W : World} {a b c d : List CT} {x : List D} {cs : Array Value} (h : Reads W [.arr a, .arr b, .arr c, .arr d] x cs.toList) :
    ∃ s y r g, Good (.arr a) (.arr s) ∧ Good (.arr b) (.arr y) ∧ Good (.arr c) (.arr r) ∧ Good (.arr d) (.arr g) ∧ ∀ t, VRel gNone W t (.agg [.arr a s, .arr b y, .arr c r, .arr d g]) (.agg cs) := by
  have hv := fun t => arg_agg h t
  obtain ⟨h1, h2, h3⟩ := h
  have good : ∀ (i : Nat) (e : List CT), ([.arr a, .arr b, .arr c, .arr d] : List CT)[i]? = some (.arr e) → ∃ s, x.getD i default = .arr s ∧ Good (.arr e) (.arr s) := by
    intro i e hi
    have hl : i < cs.toList.length := by rw [h2]; exact (List.getElem?_eq_some_iff.1 hi).1
    have h4 := (h3 i _ _ hi (List.getElem?_eq_getElem hl)).2
    generalize x.getD i default = z at h4 ⊢
    cases h4 with
    | arr _ xs hl hn h => exact ⟨xs, rfl, .arr _ xs hl hn h⟩
  match x, h1 with
  | [x0, x1, x2, x3], _ =>
    obtain ⟨s, e0, g0⟩ := good 0 a rfl
    obtain ⟨y, e1, g1⟩ := good 1 b rfl
    obtain ⟨r, e2, g2⟩ := good 2 c rfl
    obtain ⟨g, e3, g3⟩ := good 3 d rfl
    simp only [List.getD_cons_zero, List.getD_cons_succ] at e0 e1 e2 e3
    subst e0; subst e1; subst e2; subst e3
    exact ⟨s, y, r, g, g0, g1, g2, g3, hv⟩
end Go.Proofs.YtacfehneeanlgaaDoor.Ev
