/- What a law is handed reads as the print's kinds: for every program, every type that the lemmas are given, every memory; the sizes are those that the reach gives. -/
import Derived.Test.YthloggdgdklgmaaWWords
import Derived.SizedLaws
import Derived.ChangeSlices
import Derived.ChangeArms
import Derived.ChangeSame
namespace Go.Proofs.Ythloggdgdklgmaa.Open
open Go.ChangeShapes Go.WideShapes Go.RowKit Go.Proofs.YthloggdgdklgmaaW.PrintWords
set_option linter.unusedVariables false
set_option linter.unusedSimpArgs false

/-- Values of type t read as the kind d, and are good. -/
structure Opens (P : Program) {α : Type} (d : Kd α) (good : α → Prop) (t : TypeId) : Prop where
  cells : P.cellsOf t = d.sz
  opened : ∀ {H : Type} {enc : TypeId × Value → H} {w : World} {base : Nat} {spare : Nat → Bool} {held : Bool} {fuel : Nat} {cs : List Value} {D : DataW H} {ps : List MemPlace}, DataW.trod enc P w base spare held fuel t cs = some (D, ps) → (∀ n ∈ D.weights P t, n ≤ reachBytes) → ∃ x, d.K w x cs ∧ good x

section
variable {P : Program} {t e : TypeId}
theorem opens_int {k : IntKind} (ht : P.underlying t = some (.int k)) (hc : P.cellsOf t = 1) : Opens P (Kd.int k) (fun n => (Lit.int k n).wf = true) t :=
  ⟨hc, fun h _ => by obtain ⟨n, rfl, _, hw⟩ := DataW.trod_int ht h; exact ⟨n, rfl, hw⟩⟩
theorem opens_bool (ht : P.underlying t = some .bool) (hc : P.cellsOf t = 1) : Opens P Kd.bool (fun _ => True) t :=
  ⟨hc, fun h _ => by obtain ⟨n, rfl, _⟩ := DataW.trod_bool ht h; exact ⟨n, rfl, trivial⟩⟩
theorem opens_string (ht : P.underlying t = some .string) (hc : P.cellsOf t = 1) : Opens P Kd.string (fun s => s.size ≤ 140737488351232) t :=
  ⟨hc, fun h hw => by
    obtain ⟨s, rfl, hx, _⟩ := DataW.trod_string ht h
    cases hx
    have := hw s.data.toList.length (by simp [DataW.weights])
    exact ⟨s, rfl, by simpa [reachBytes] using this⟩⟩

theorem list_of_each {α : Type} {p : Nat → α → Prop} : ∀ (n : Nat), (∀ i, i < n → ∃ x, p i x) → ∃ xs : List α, xs.length = n ∧ ∀ i x, xs[i]? = some x → p i x
  | 0, _ => ⟨[], rfl, fun i x h => by simp at h⟩
  | n + 1, h => by
    obtain ⟨xs, hl, hx⟩ := list_of_each n (fun i hi => h i (by omega))
    obtain ⟨y, hy⟩ := h n (by omega)
    refine ⟨xs ++ [y], by simp [hl], fun i x hi => ?_⟩
    by_cases hlt : i < n
    · rw [List.getElem?_append_left (by omega)] at hi
      exact hx i x hi
    · obtain ⟨hi2, rfl⟩ := List.getElem?_eq_some_iff.1 hi
      simp [hl] at hi2
      have : i = n := by omega
      subst this
      simpa [hl] using hy

theorem add_add' (a : Addr) (i j : Nat) : (a.add i).add j = a.add (i + j) := by
  unfold Addr.add
  by_cases h1 : i = 0 <;> by_cases h2 : j = 0 <;> simp [h1, h2, Nat.add_assoc]

theorem weightsAll_mem {H : Type} {d : DataW H} {n : Nat} : ∀ {ds : List (DataW H)}, d ∈ ds → n ∈ d.weights P e → n ∈ DataW.weightsAll P e ds
  | d0 :: ds, hd, hn => by
    simp only [DataW.weightsAll, List.mem_append]
    rcases List.mem_cons.1 hd with rfl | hd
    · exact .inl hn
    · exact .inr (weightsAll_mem hd hn)

theorem opens_slice {α : Type} {d : Kd α} {good : α → Prop} {B : Nat} (ht : P.underlying t = some (.slice e)) (hc : P.cellsOf t = 1) (hB : P.bytesOf e = B) (he : Opens P d good e) :
    Opens P (Kd.slice e d) (fun xs => xs.length * B ≤ 140737488351232 ∧ ∀ x ∈ xs, good x) t := by
  refine ⟨hc, fun {H enc w base spare held fuel cs D ps} h hw => ?_⟩
  rcases DataW.trod_slice ht h with ⟨rfl, _⟩ | ⟨a, len, cap, elems, rest, n, rfl, rfl, hx, hb, hl, hm, hlen, hel, _, _⟩
  · exact ⟨[], ⟨none, 0, rfl, Nat.le_refl _, by refine ⟨rfl, by simp, fun h => by simp at h⟩⟩, by simp, by simp⟩
  · cases hx
    have hw0 := hw ((elems.map (·.1)).length + (rest.map (·.1)).length |> (· * P.bytesOf e)) (by simp [DataW.weights, ht])
    have each : ∀ i, i < len → ∃ x, (∃ c, c.length = d.sz ∧ d.K w x c ∧ ∀ j u, c[j]? = some u → w.cell? (a.add (i * d.sz + j)) = some u) ∧ good x := by
      intro i hi
      have hk := hel i hi
      rw [List.getElem?_eq_getElem (by omega)] at hk
      obtain ⟨c, h1, h2⟩ := Option.bind_eq_some_iff.1 hk
      obtain ⟨x, hK, hg⟩ := he.opened (D := elems[i].1) (ps := elems[i].2) h2 (fun m hm' => hw m (by
        simp only [DataW.weights, ht, List.mem_cons, List.mem_append]
        exact .inr (.inl (weightsAll_mem (List.mem_map.2 ⟨elems[i], List.getElem_mem _, rfl⟩) hm'))))
      obtain ⟨_, hcl, hcell⟩ := World.cells?_some h1
      refine ⟨x, ⟨c, by rw [hcl, he.cells], hK, fun j u hj => ?_⟩, hg⟩
      obtain ⟨hjl, _⟩ := List.getElem?_eq_some_iff.1 hj
      have := hcell j (by omega)
      rw [add_add', he.cells] at this
      rw [this, hj]
    obtain ⟨xs, hxl, hxs⟩ := list_of_each len each
    subst hxl
    refine ⟨xs, ⟨some a, cap, rfl, hl, rfl, by simp [maxLen] at hm; omega, fun _ => ⟨a, rfl, fun j p hj => (hxs j p hj).1⟩⟩, ?_, fun x hx => ?_⟩
    · have h2 : elems.length * P.bytesOf e ≤ (elems.length + rest.length) * P.bytesOf e := Nat.mul_le_mul_right _ (by omega)
      simp only [List.length_map] at hw0
      rw [hlen] at h2 hw0
      rw [hB] at h2 hw0
      exact Nat.le_trans h2 (by simpa [reachBytes] using hw0)
    · obtain ⟨i, hi, rfl⟩ := List.getElem_of_mem hx
      exact (hxs i _ (List.getElem?_eq_getElem hi)).2

/-- Fields from a place on. -/
structure OpensFrom (P : Program) {α : Type} (d : Kd α) (good : α → Prop) (fs : List Field) (off : Nat) : Prop where
  opened : ∀ {H : Type} {enc : TypeId × Value → H} {w : World} {base : Nat} {spare : Nat → Bool} {held : Bool} {n : Nat} {cs : List Value} {xs : List (DataW H × List MemPlace)}, cs.length = off + d.sz → xs.length = fs.length →
    (∀ (i : Nat) (f : Field), fs[i]? = some f → DataW.trod enc P w base spare held n f.type ((cs.drop f.offset).take (P.cellsOf f.type)) = xs[i]?) → (∀ m ∈ DataW.weightsEach P (fs.map (·.type)) (xs.map (·.1)), m ≤ reachBytes) → ∃ x, d.K w x (cs.drop off) ∧ good x
theorem from_one {α : Type} {d : Kd α} {good : α → Prop} {f : Field} {off : Nat} (ho : f.offset = off) (h : Opens P d good f.type) : OpensFrom P d good [f] off := by
  refine ⟨fun {H enc w base spare held n cs xs} hl hx hf hw => ?_⟩
  match xs, hx with
  | [x], _ =>
    have h1 := hf 0 f rfl
    rw [ho, h.cells, List.take_of_length_le (by rw [List.length_drop]; omega)] at h1
    exact h.opened (D := x.1) (ps := x.2) h1 (fun m hm => hw m (by simp [DataW.weightsEach, hm]))
theorem from_more {α β : Type} {d : Kd α} {d' : Kd β} {good : α → Prop} {good' : β → Prop} {f : Field} {fs : List Field} {off : Nat} (ho : f.offset = off) (h : Opens P d good f.type) (h' : OpensFrom P d' good' fs (off + d.sz)) :
    OpensFrom P (Kd.pair d d') (fun x => good x.1 ∧ good' x.2) (f :: fs) off := by
  refine ⟨fun {H enc w base spare held n cs xs} hl hx hf hw => ?_⟩
  match xs, hx with
  | x :: xs, hx =>
    have hl' : cs.length = off + (d.sz + d'.sz) := hl
    have h1 := hf 0 f rfl
    rw [ho, h.cells] at h1
    obtain ⟨y, hy, gy⟩ := h.opened (D := x.1) (ps := x.2) h1 (fun m hm => hw m (by simp only [List.map_cons, DataW.weightsEach, List.mem_append]; exact .inl hm))
    obtain ⟨z, hz, gz⟩ := h'.opened (cs := cs) (xs := xs) (by omega) (by simpa using hx) (fun i g hg => by have := hf (i + 1) g (by simpa using hg); simpa using this) (fun m hm => hw m (by simp only [List.map_cons, DataW.weightsEach, List.mem_append]; exact .inr hm))
    refine ⟨(y, z), ⟨_, _, ?_, hy, hz⟩, gy, gz⟩
    rw [← List.drop_drop, List.take_append_drop]
theorem opens_struct {α β : Type} {d : Kd α} {good : α → Prop} {fs : Array Field} (ht : P.underlying t = some (.struct fs)) (hc : P.cellsOf t = d.sz) (h : OpensFrom P d good fs.toList 0) (g : β → α) (mk : α → β) (hg : ∀ x, g (mk x) = x) :
    Opens P (Kd.iso d g) (fun y => good (g y)) t := by
  refine ⟨hc, fun {H enc w base spare held fuel cs D ps} hx hw => ?_⟩
  obtain ⟨xs, n, rfl, hx, hl, hn, hf⟩ := DataW.trod_struct ht hx
  cases hx
  obtain ⟨x, hK, hgd⟩ := h.opened (cs := cs) (xs := xs) (by omega) (by simpa using hn) (fun i f hi => hf i f (by simpa using hi)) (fun m hm => hw m (by simpa [DataW.weights, ht] using hm))
  exact ⟨mk x, by show d.K w (g (mk x)) cs; rw [hg]; simpa using hK, by show good (g (mk x)); rw [hg]; exact hgd⟩
theorem Opens.imp {α : Type} {d : Kd α} {good good' : α → Prop} (h : Opens P d good t) (hi : ∀ x, good x → good' x) : Opens P d good' t :=
  ⟨h.cells, fun hx hw => let ⟨x, a, b⟩ := h.opened hx hw; ⟨x, a, hi x b⟩⟩
end

section
variable {H : Type} {enc : TypeId × Value → H} {P : Program} {W : World}
/-- An argument of a law, opened. -/
theorem opened_arg {base : Nat} {spare : Nat → Bool} {held : Bool} {t : TypeId} {α : Type} {d : Kd α} {good : α → Prop} {v : Value} {D : DataW H} {ps : List MemPlace} {ts : List TypeId} {ds : List (DataW H)} {j : Nat} (ho : Opens P d good t)
    (hsz : (DataW.weightsEach P ts ds).all (· ≤ reachBytes) = true) (ht : ts[j]? = some t) (hd : ds[j]? = some D) (h : DataW.Trod enc P W base spare held t v D ps) : ∃ x, d.K W x v.cells.toList ∧ good x := by
  obtain ⟨fuel, hf⟩ := h
  exact ho.opened hf (fun n hn => by have := List.all_eq_true.1 hsz _ (DataW.weights_mem_each ht hd n hn); simpa using this)
end
end Go.Proofs.Ythloggdgdklgmaa.Open
