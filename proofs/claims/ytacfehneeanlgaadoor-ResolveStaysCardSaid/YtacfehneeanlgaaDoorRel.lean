/- How the evaluator's data stand for the model's values and worlds; what steps keep. -/
import Derived.Test.YtacfehneeanlgaaDoorEv
import Derived.Test.YtacfehneeanlgaaDoorGlb
import Derived.Below
namespace Go.Proofs.YtacfehneeanlgaaDoor.Ev
open Go
set_option linter.unusedVariables false
set_option linter.unusedSimpArgs false

inductive Slot where
  | tmp (t : Nat)
  | cell (k : Key) (o : Nat)
  | ret
  | none
  | sub (s : Slot) (i : Nat)
  deriving DecidableEq
/-- Who may write to a block: nobody (free); somebody outside, behind some cells (other); the holder of a slice, behind its cells (arr); the holder of a box (box). -/
inductive Perm where
  | free
  | other (lim : Nat)
  | arr (s : Slot) (lim : Nat)
  | box (k : Key)
structure Gh where
  own : Nat → Perm
  at_ : Key → Option Nat
def Perm.stable (o : Nat) : Perm → Prop
  | .free => True
  | .other l => o < l
  | .arr _ l => o < l
  | .box _ => False
def Gh.stable (g : Gh) (b o : Nat) : Prop := (g.own b).stable o
abbrev pl (b o : Nat) : Addr := ⟨b, o, none⟩
/-- What package variables hold, that nobody writes to. -/
def GlobOk (g : Gh) (w : World) : Prop := ∀ x ∈ globs, g.own x.1 = .free ∧ x.1 < w.heap.size ∧ w.cell? (pl x.1 x.2.1) = some x.2.2

/-- A cell's value is of a kind and tells some data; all that it leads to is such that nobody writes to it. -/
inductive DRel (st : Nat → Nat → Prop) (w : World) : CT → D → Value → Prop
  | int (k : IntKind) (d : D) : DRel st w (.int k) d (.int k d.toInt)
  | bool (d : D) : DRel st w .bool d (.bool d.toBool)
  | str (d : D) : DRel st w .str d (.string d.toStr)
  | fn (d : D) : DRel st w .fn d (.func (.func d.toInt.toNat) #[] #[])
  | nil (cs : List CT) (d : D) (p : Option Addr) (h : d.toArr = []) : DRel st w (.arr cs) d (.slice p 0 0)
  | arr (cs : List CT) (d : D) (b o cap : Nat) (f : Nat → Nat → Value) (hn : d.toArr.length ≤ cap) (hm : cap ≤ maxLen)
      (hc : ∀ i j, i < d.toArr.length → j < cs.length → st b (o + i * cs.length + j) ∧ w.cell? (pl b (o + i * cs.length + j)) = some (f i j))
      (hd : ∀ i j c, i < d.toArr.length → cs[j]? = some c → DRel st w c ((d.toArr.getD i []).getD j default) (f i j)) : DRel st w (.arr cs) d (.slice (some (pl b o)) d.toArr.length cap)

theorem DRel.mono {st st' : Nat → Nat → Prop} {w w' : World} (h : ∀ b o c, st b o → w.cell? (pl b o) = some c → st' b o ∧ w'.cell? (pl b o) = some c) {ct : CT} {d : D} {c : Value} (hd : DRel st w ct d c) : DRel st' w' ct d c := by
  induction hd with
  | int k d => exact .int k d
  | bool d => exact .bool d
  | str d => exact .str d
  | fn d => exact .fn d
  | nil cs d p h => exact .nil cs d p h
  | arr cs d b o cap f hn hm hc _ ih => exact .arr cs d b o cap f hn hm (fun i j hi hj => h _ _ _ (hc i j hi hj).1 (hc i j hi hj).2) ih

/-- The data are told by what the projections of the kind see. -/
theorem DRel.toArr_congr {st : Nat → Nat → Prop} {w : World} {cs : List CT} {d d' : D} {c : Value} (h : DRel st w (.arr cs) d c) (e : d'.toArr = d.toArr) : DRel st w (.arr cs) d' c := by
  cases h with
  | nil _ _ p h => exact .nil cs d' p (e.trans h)
  | arr _ _ b o cap f hn hm hc hd => rw [← e] at hn hc hd ⊢; exact .arr cs d' b o cap f hn hm hc hd

/-- No cell of a row may not be written. -/
def Unfz (n : Nat) (fz : Nat × Nat) : Prop := fz.1 = fz.2 ∨ n ≤ fz.1
theorem unfz_none (n : Nat) : Unfz n (0, 0) := .inl rfl
theorem Unfz.at {n : Nat} {fz : Nat × Nat} (h : Unfz n fz) (o : Nat) (ho : o < n) : (decide (fz.1 ≤ o) && decide (o < fz.2)) = false := by
  rcases h with h | h
  · rw [h]; simp
  · simp; omega
/-- The spare room behind a slice's cells is the slot's. -/
def Spare (g : Gh) (w : World) (s : Slot) (sz n : Nat) (c : Value) : Prop :=
  c = nilSlice ∨ (n = 0 ∧ ∃ p, c = .slice p 0 0) ∨
  ∃ b cap cur, ∃ e : TypeId × Nat × Nat, c = .slice (some (pl b 0)) n cap ∧ n ≤ cap ∧ cap ≤ maxLen ∧ g.own b = .arr s (n * sz) ∧ w.heap[b]? = some (.cells cur e.1 e.2) ∧ cur.size = cap * sz ∧ Unfz cur.size e.2

/-- Values that cells bear; and parts of results. -/
def V.flat : V → Prop
  | .val _ | .arr _ _ | .own _ _ => True
  | _ => False
/-- .. of structs that are values. -/
def V.cellP : V → Prop
  | .val _ | .arr _ _ | .own _ _ | .ptr _ _ => True
  | _ => False
theorem V.flat.p {v : V} (h : v.flat) : v.cellP := by cases v <;> first | trivial | exact h.elim
def V.res : V → Prop
  | .val _ | .arr _ _ | .own _ _ | .agg _ | .uni _ _ | .slen _ | .sarr _ _ => True
  | _ => False
/-- A slice of which there is no other view: its cells are told, nobody leans on them. -/
def UniRel (g : Gh) (w : World) (s : Slot) (cs : List CT) (xs : List (List D)) (c : Value) : Prop :=
  (xs = [] ∧ c = nilSlice) ∨ ∃ b cap cur, ∃ e : TypeId × Nat × Nat, c = .slice (some (pl b 0)) xs.length cap ∧ xs.length ≤ cap ∧ cap ≤ maxLen ∧ g.own b = .arr s 0 ∧ w.heap[b]? = some (.cells cur e.1 e.2) ∧ (cur.size = cap * cs.length ∧ Unfz cur.size e.2) ∧
    ∀ (i j : Nat) (ct : CT), i < xs.length → cs[j]? = some ct → ∃ v, cur[i * cs.length + j]? = some v ∧ DRel g.stable w ct ((xs.getD i []).getD j default) v
theorem UniRel.mono {g g' : Gh} {w w' : World} {s s' : Slot} {cs : List CT} {xs : List (List D)} {c : Value} (hst : ∀ b o c, g.stable b o → w.cell? (pl b o) = some c → g'.stable b o ∧ w'.cell? (pl b o) = some c)
    (h : UniRel g w s cs xs c) (ho : ∀ b, g.own b = .arr s 0 → g'.own b = .arr s' 0 ∧ w'.heap[b]? = w.heap[b]?) : UniRel g' w' s' cs xs c := by
  rcases h with h | ⟨b, cap, cur, e, h0, h1, h2, h3, h4, h5, h6⟩
  · exact .inl h
  · obtain ⟨h7, h8⟩ := ho b h3
    exact .inr ⟨b, cap, cur, e, h0, h1, h2, h7, by rw [h8, h4], h5, fun i j ct hi hj => by obtain ⟨v, a, q⟩ := h6 i j ct hi hj; exact ⟨v, a, q.mono hst⟩⟩
/-- What is told of an object's slice: how many rows, and its room, in one number. -/
def mnN (m : Nat) : Nat := m % 18446744073709551616
def mnC (m : Nat) : Nat := m / 18446744073709551616
inductive VRel (g : Gh) (w : World) : Slot → V → Value → Prop
  | val (s : Slot) (v : Value) : VRel g w s (.val v) v
  | arr (s : Slot) (cs : List CT) (xs : List (List D)) (c : Value) (h : DRel g.stable w (.arr cs) (.arr xs) c) : VRel g w s (.arr cs xs) c
  | own (s : Slot) (cs : List CT) (xs : List (List D)) (c : Value) (h : DRel g.stable w (.arr cs) (.arr xs) c) (hs : Spare g w s cs.length xs.length c) : VRel g w s (.own cs xs) c
  | ptr (s : Slot) (k : Key) (off b : Nat) (h : g.at_ k = some b) (hk : k.isMp = false) : VRel g w s (.ptr k off) (.pointer (some (pl b off)))
  | mp (s : Slot) (t b : Nat) (h : g.at_ (.mp t) = some b) {it : Bool} : VRel g w s (.mp t it) (if it then .pointer (some (pl b 0)) else .map (some b))
  | eptr (s : Slot) (cs : List CT) (xs : List (List D)) (i j b o cap : Nat) (hi : i < xs.length) (h : DRel g.stable w (.arr cs) (.arr xs) (.slice (some (pl b o)) xs.length cap)) : VRel g w s (.eptr cs xs i j) (.pointer (some (pl b (o + i * cs.length + j))))
  | agg (s : Slot) (vs : List V) (cs : Array Value) (hl : vs.length = cs.size) (hf : ∀ (i : Nat) (v : V), vs[i]? = some v → v.cellP) (h : ∀ (i : Nat) (v : V) (c : Value), vs[i]? = some v → cs[i]? = some c → VRel g w .none v c) : VRel g w s (.agg vs) (.agg cs)
  | tup (s : Slot) (vs : List V) (cs : Array Value) (hl : vs.length = cs.size) (hn : ∀ (i : Nat) (v : V), vs[i]? = some v → v.res) (h : ∀ (i : Nat) (v : V) (c : Value), vs[i]? = some v → cs[i]? = some c → VRel g w (.sub s i) v c) : VRel g w s (.tup vs) (.tuple cs)
  | uni (s : Slot) (cs : List CT) (xs : List (List D)) (c : Value) (h : UniRel g w s cs xs c) : VRel g w s (.uni cs xs) c
  | slen (s : Slot) (n : Nat) (p : Option Addr) (cap : Nat) : VRel g w s (.slen n) (.slice p n cap)
  | ms (s : Slot) (t : Nat) (cs : List CT) (off len b cap n : Nat) (h : g.at_ (.mp t) = some b) (hn : g.at_ (.mn t) = some n) (ho : off + len ≤ mnN n) (hl : len ≤ cap) (hm : cap ≤ maxLen ∧ off + cap = mnC n) : VRel g w s (.ms t cs off len) (.slice (some (pl b (off * cs.length))) len cap)
  | mptr (s : Slot) (t : Nat) (cs : List CT) (i j b n : Nat) (h : g.at_ (.mp t) = some b) (hn : g.at_ (.mn t) = some n) (hi : i < mnN n) : VRel g w s (.mptr t cs i j) (.pointer (some (pl b (i * cs.length + j))))
  | sarr (s : Slot) (n : Nat) (rows : List (List V)) (b : Nat) (f : Nat → Nat → Value) (hl : ∀ (i : Nat) (r : List V), rows[i]? = some r → r.length = n) (hm : rows.length ≤ maxLen) (hf : ∀ (i j : Nat) (r : List V) (v : V), rows[i]? = some r → r[j]? = some v → v.cellP)
      (hc : ∀ (i j : Nat) (r : List V) (v : V), rows[i]? = some r → r[j]? = some v → g.stable b (i * n + j) ∧ w.cell? (pl b (i * n + j)) = some (f i j)) (h : ∀ (i j : Nat) (r : List V) (v : V), rows[i]? = some r → r[j]? = some v → VRel g w .none v (f i j)) : VRel g w s (.sarr n rows) (.slice (some (pl b 0)) rows.length rows.length)
  | sptr (s : Slot) (n : Nat) (rows : List (List V)) (i b : Nat) (hi : i < rows.length) (h : VRel g w .none (.sarr n rows) (.slice (some (pl b 0)) rows.length rows.length)) : VRel g w s (.sptr n rows i) (.pointer (some (pl b (i * n))))

/-- Slots below a slot. -/
inductive Slot.under : Slot → Slot → Prop
  | refl (s : Slot) : Slot.under s s
  | sub (s r : Slot) (i : Nat) (h : Slot.under (.sub s i) r) : Slot.under s r

theorem VRel.mono {g g' : Gh} {w w' : World} (hst : ∀ b o c, g.stable b o → w.cell? (pl b o) = some c → g'.stable b o ∧ w'.cell? (pl b o) = some c)
    (hat : ∀ k b, g.at_ k = some b → g'.at_ k = some b) {s : Slot} {v : V} {c : Value} (h : VRel g w s v c)
    (harr : ∀ r b l, Slot.under s r → g.own b = .arr r l → g'.own b = .arr r l ∧ w'.heap[b]? = w.heap[b]?)
    (hn2 : ∀ r b l, Slot.under .none r → g.own b = .arr r l → g'.own b = .arr r l ∧ w'.heap[b]? = w.heap[b]?) : VRel g' w' s v c := by
  induction h with
  | val s v => exact .val s v
  | arr s cs xs c h => exact .arr s cs xs c (h.mono hst)
  | own s cs xs c h hs =>
    refine .own s cs xs c (h.mono hst) ?_
    rcases hs with hs | hs | ⟨b, cap, cur, e, rfl, h1, h2, h3, h4, h5⟩
    · exact .inl hs
    · exact .inr (.inl hs)
    · obtain ⟨h7, h8⟩ := harr s b _ (.refl s) h3
      exact .inr (.inr ⟨b, cap, cur, e, rfl, h1, h2, h7, by rw [h8, h4], h5⟩)
  | ptr s k off b h hk => exact .ptr s k off b (hat _ _ h) hk
  | mp s t b h => exact .mp s t b (hat _ _ h)
  | eptr s cs xs i j b o cap hi h => exact .eptr s cs xs i j b o cap hi (h.mono hst)
  | agg s vs cs hl hf _ ih => exact .agg s vs cs hl hf (fun i v c hv hc => ih i v c hv hc (fun r b l hu ho => hn2 r b l hu ho))
  | uni s cs xs c h => exact .uni s cs xs c (h.mono hst fun b ho => harr s b 0 (.refl s) ho)
  | slen s n p cap => exact .slen s n p cap
  | ms s t cs off len b cap n h hn ho hl hm => exact .ms s t cs off len b cap n (hat _ _ h) (hat _ _ hn) ho hl hm
  | mptr s t cs i j b n h hn hi => exact .mptr s t cs i j b n (hat _ _ h) (hat _ _ hn) hi
  | sarr s n rows b f hl hm hf hc _ ih => exact .sarr s n rows b f hl hm hf (fun i j r v hr hv => hst _ _ _ (hc i j r v hr hv).1 (hc i j r v hr hv).2) (fun i j r v hr hv => ih i j r v hr hv (fun r b l hu ho => hn2 r b l hu ho))
  | sptr s n rows i b hi _ ih => exact .sptr s n rows i b hi (ih (fun r b l hu ho => hn2 r b l hu ho))
  | tup s vs cs hl hn _ ih => exact .tup s vs cs hl hn (fun i v c hv hc => ih i v c hv hc (fun r b l hu ho => harr r b l (.sub s r i hu) ho))

/-- A box in memory. -/
def CellRel (g : Gh) (w : World) (k : Key) (cs : List V) : Prop :=
  ∃ b cur e, g.at_ k = some b ∧ g.own b = .box k ∧ w.heap[b]? = some (.cells cur e (0, 0)) ∧ cur.size = cs.length ∧ (∀ (i : Nat) (v : V), cs[i]? = some v → v.cellP) ∧ ∀ (i : Nat) (v : V) (c : Value), cs[i]? = some v → cur[i]? = some c → VRel g w (.cell k i) v c

/-- A map in memory, or what walks a string. -/
def ObjIs (st : Nat → Nat → Prop) (w : World) (n : Option Nat) (cs : List V) (x : Obj) : Prop :=
  (∃ es clock kc vc rows, cs = [.arr [kc, vc] rows] ∧ x = .map es clock ∧ es.size = rows.length ∧ ∀ (i : Nat) (e : MapEntry) (r : List D), es[i]? = some e → rows[i]? = some r → DRel st w kc (r.getD 0 default) e.key ∧ DRel st w vc (r.getD 1 default) e.val) ∨
  (∃ s pos, cs = [.val (.string s), .val (.int .i64 (Int.ofNat pos))] ∧ x = .stringIter s pos) ∨
  ∃ cts rows cur, ∃ e : TypeId × Nat × Nat, ∃ u, cs = [.arr cts rows, .val u] ∧ x = .cells cur e.1 e.2 ∧ (∃ m, n = some m ∧ mnN m = rows.length ∧ mnC m * cts.length = cur.size) ∧ rows.length * cts.length ≤ cur.size ∧ Unfz cur.size e.2 ∧
    ∀ (i j : Nat) (ct : CT), i < rows.length → cts[j]? = some ct → ∃ v, cur[i * cts.length + j]? = some v ∧ DRel st w ct ((rows.getD i []).getD j default) v
def MapRel (g : Gh) (w : World) (k : Key) (cs : List V) : Prop :=
  ∃ b x, g.at_ k = some b ∧ g.own b = .box k ∧ w.heap[b]? = some x ∧ ObjIs g.stable w (g.at_ k.num) cs x
def BoxRel (g : Gh) (w : World) (k : Key) (cs : List V) : Prop := if k.isMp then MapRel g w k cs else CellRel g w k cs
theorem BoxRel.cell {g : Gh} {w : World} {k : Key} {cs : List V} (h : BoxRel g w k cs) (hk : k.isMp = false) : CellRel g w k cs := by
  unfold BoxRel at h; rwa [if_neg (by simp [hk])] at h
theorem BoxRel.map {g : Gh} {w : World} {k : Key} {cs : List V} (h : BoxRel g w k cs) (hk : k.isMp = true) : MapRel g w k cs := by
  unfold BoxRel at h; rwa [if_pos hk] at h
theorem BoxRel.ofCell {g : Gh} {w : World} {k : Key} {cs : List V} (hk : k.isMp = false) (h : CellRel g w k cs) : BoxRel g w k cs := by
  unfold BoxRel; rwa [if_neg (by simp [hk])]
theorem BoxRel.ofMap {g : Gh} {w : World} {k : Key} {cs : List V} (hk : k.isMp = true) (h : MapRel g w k cs) : BoxRel g w k cs := by
  unfold BoxRel; rwa [if_pos hk]
theorem BoxRel.at {g : Gh} {w : World} {k : Key} {cs : List V} (h : BoxRel g w k cs) : ∃ b, g.at_ k = some b ∧ g.own b = .box k := by
  cases hk : k.isMp with
  | true => obtain ⟨b, _, h1, h2, _⟩ := h.map hk; exact ⟨b, h1, h2⟩
  | false => obtain ⟨b, _, _, h1, h2, _⟩ := h.cell hk; exact ⟨b, h1, h2⟩
theorem BoxRel.flat {g : Gh} {w : World} {k : Key} {cs : List V} (h : BoxRel g w k cs) : ∀ (i : Nat) (v : V), cs[i]? = some v → v.cellP := by
  cases hk : k.isMp with
  | true =>
    obtain ⟨b, _, _, _, _, ⟨_, _, kc, vc, rows, rfl, _⟩ | ⟨_, _, rfl, _⟩ | ⟨_, _, _, _, _, rfl, _⟩⟩ := h.map hk
    · intro i v hv
      cases i with
      | zero => simp at hv; subst hv; trivial
      | succ i => simp at hv
    · intro i v hv
      match i with
      | 0 => simp at hv; subst hv; trivial
      | 1 => simp at hv; subst hv; trivial
      | _ + 2 => simp at hv
    · intro i v hv
      match i with
      | 0 => simp at hv; subst hv; trivial
      | 1 => simp at hv; subst hv; trivial
      | _ + 2 => simp at hv
  | false => obtain ⟨b, _, _, _, _, _, _, h6, _⟩ := h.cell hk; exact h6
theorem ObjIs.mono {st st' : Nat → Nat → Prop} {w w' : World} {n n' : Option Nat} {cs : List V} {x : Obj} (h : ∀ b o c, st b o → w.cell? (pl b o) = some c → st' b o ∧ w'.cell? (pl b o) = some c) (hn : ∀ m, n = some m → n' = some m) (hx : ObjIs st w n cs x) : ObjIs st' w' n' cs x := by
  rcases hx with ⟨es, clock, kc, vc, rows, e1, e2, h4, h5⟩ | hx | ⟨cts, rows, cur, e, u, e1, e2, e3, h1, h2, h3⟩
  · exact .inl ⟨es, clock, kc, vc, rows, e1, e2, h4, fun i x r hx hr => ⟨(h5 i x r hx hr).1.mono h, (h5 i x r hx hr).2.mono h⟩⟩
  · exact .inr (.inl hx)
  · exact .inr (.inr ⟨cts, rows, cur, e, u, e1, e2, (by obtain ⟨m, q1, q2⟩ := e3; exact ⟨m, hn _ q1, q2⟩), h1, h2, fun i j ct hi hj => by obtain ⟨v, a, q⟩ := h3 i j ct hi hj; exact ⟨v, a, q.mono h⟩⟩)
theorem BoxRel.mono {g g' : Gh} {w w' : World} {k : Key} {cs : List V} (h : BoxRel g w k cs) (hst : ∀ b o c, g.stable b o → w.cell? (pl b o) = some c → g'.stable b o ∧ w'.cell? (pl b o) = some c)
    (hb : ∀ b, g.at_ k = some b → g.own b = .box k → g'.at_ k = some b ∧ g'.own b = .box k ∧ w'.heap[b]? = w.heap[b]?) (hnum : ∀ n, g.at_ k.num = some n → g'.at_ k.num = some n) (hv : ∀ (i : Nat) (v : V) (c : Value), cs[i]? = some v → v.cellP → VRel g w (.cell k i) v c → VRel g' w' (.cell k i) v c) : BoxRel g' w' k cs := by
  cases hk : k.isMp with
  | true =>
    obtain ⟨b, x, h1, h2, h3, h4⟩ := h.map hk
    obtain ⟨q1, q2, q3⟩ := hb b h1 h2
    exact .ofMap hk ⟨b, x, q1, q2, q3.trans h3, h4.mono hst hnum⟩
  | false =>
    obtain ⟨b, cur, e, h1, h2, h3, h4, h6, h5⟩ := h.cell hk
    obtain ⟨q1, q2, q3⟩ := hb b h1 h2
    exact .ofCell hk ⟨b, cur, e, q1, q2, q3.trans h3, h4, h6, fun i v c hi hc => hv i v c hi (h6 i v hi) (h5 i v c hi hc)⟩

/-- What a step may turn. -/
structure Evol (g : Gh) (w : World) (g' : Gh) (w' : World) : Prop where
  os : w'.os = w.os
  tape : w'.tape = w.tape
  output : w'.output = w.output
  size : w.heap.size ≤ w'.heap.size
  free : ∀ b, b < w.heap.size → g.own b = .free → w'.heap[b]? = w.heap[b]? ∧ g'.own b = .free
  other : ∀ b l, g.own b = .other l → w'.heap[b]? = w.heap[b]? ∧ g'.own b = .other l
  arr : ∀ b s l, g.own b = .arr s l → (∀ o c, o < l → w.cell? (pl b o) = some c → w'.cell? (pl b o) = some c) ∧ (l = 0 ∨ g'.own b = .free ∨ ∃ s' l', g'.own b = .arr s' l' ∧ l ≤ l')
  box : ∀ b i, g.own b = .box (.out i) → g'.own b = .box (.out i)
  outs : ∀ i b, g.at_ (.out i) = some b → g'.at_ (.out i) = some b
theorem Evol.refl (g : Gh) (w : World) : Evol g w g w :=
  ⟨rfl, rfl, rfl, Nat.le_refl _, fun _ _ h => ⟨rfl, h⟩, fun _ _ h => ⟨rfl, h⟩, fun _ s l h => ⟨fun _ _ _ h => h, .inr (.inr ⟨s, l, h, Nat.le_refl _⟩)⟩, fun _ _ h => h, fun _ _ h => h⟩
theorem cell_lt {w : World} {b o : Nat} {c : Value} (h : w.cell? (pl b o) = some c) : b < w.heap.size := World.block_lt_of_cell? w _ h
theorem cell_of_heap {w w' : World} {b o : Nat} (h : w'.heap[b]? = w.heap[b]?) : w'.cell? (pl b o) = w.cell? (pl b o) := by simp [World.cell?, h]
theorem Evol.glob {g g' : Gh} {w w' : World} (h : Evol g w g' w') (hg : GlobOk g w) : GlobOk g' w' := fun x hx => by
  obtain ⟨h1, h2, h3⟩ := hg x hx
  obtain ⟨h4, h5⟩ := h.free x.1 h2 h1
  exact ⟨h5, Nat.lt_of_lt_of_le h2 h.size, by rw [cell_of_heap h4]; exact h3⟩
theorem Evol.stable {g g' : Gh} {w w' : World} (h : Evol g w g' w') : ∀ b o c, g.stable b o → w.cell? (pl b o) = some c → g'.stable b o ∧ w'.cell? (pl b o) = some c := by
  intro b o c hs hc
  unfold Gh.stable at hs ⊢
  cases ho : g.own b with
  | free =>
    obtain ⟨h1, h2⟩ := h.free b (cell_lt hc) ho
    rw [h2, cell_of_heap h1]
    exact ⟨trivial, hc⟩
  | other l =>
    obtain ⟨h1, h2⟩ := h.other b l ho
    rw [ho] at hs
    rw [h2, cell_of_heap h1]
    exact ⟨hs, hc⟩
  | arr s l =>
    obtain ⟨h1, h2⟩ := h.arr b s l ho
    rw [ho] at hs
    refine ⟨?_, h1 o c hs hc⟩
    rcases h2 with h2 | h2 | ⟨s', l', h2, hl⟩
    · subst h2; exact absurd hs (Nat.not_lt_zero _)
    · rw [h2]; trivial
    · rw [h2]; exact Nat.lt_of_lt_of_le hs hl
  | box k => rw [ho] at hs; exact hs.elim
theorem Evol.trans {g g1 g2 : Gh} {w w1 w2 : World} (hw : ∀ b, w.heap.size ≤ b → g.own b = .free) (h : Evol g w g1 w1) (k : Evol g1 w1 g2 w2) : Evol g w g2 w2 := by
  refine ⟨k.os.trans h.os, k.tape.trans h.tape, k.output.trans h.output, Nat.le_trans h.size k.size, fun b hb ho => ?_, fun b l ho => ?_, fun b s l ho => ?_, fun b i ho => k.box b i (h.box b i ho), fun i b hb => k.outs i b (h.outs i b hb)⟩
  · obtain ⟨h1, h2⟩ := h.free b hb ho
    obtain ⟨h3, h4⟩ := k.free b (Nat.lt_of_lt_of_le hb h.size) h2
    exact ⟨h3.trans h1, h4⟩
  · obtain ⟨h1, h2⟩ := h.other b l ho
    obtain ⟨h3, h4⟩ := k.other b l h2
    exact ⟨h3.trans h1, h4⟩
  · obtain ⟨h1, h2⟩ := h.arr b s l ho
    have hlt : b < w.heap.size := Nat.lt_of_not_le fun hle => by rw [hw b hle] at ho; cases ho
    rcases h2 with h2 | h2 | ⟨s', l', h2, hl⟩
    · subst h2; exact ⟨fun o c ho => absurd ho (Nat.not_lt_zero _), .inl rfl⟩
    · obtain ⟨h3, h4⟩ := k.free b (Nat.lt_of_lt_of_le hlt h.size) h2
      exact ⟨fun o c ho hc => by rw [cell_of_heap h3]; exact h1 o c ho hc, .inr (.inl h4)⟩
    · obtain ⟨h3, h4⟩ := k.arr b s' l' h2
      refine ⟨fun o c ho hc => h3 o c (Nat.lt_of_lt_of_le ho hl) (h1 o c ho hc), ?_⟩
      rcases h4 with h4 | h4 | ⟨s2, l2, h4, hl2⟩
      · exact .inl (by omega)
      · exact .inr (.inl h4)
      · exact .inr (.inr ⟨s2, l2, h4, Nat.le_trans hl hl2⟩)

/-- The state stands for the act and the world: since the call began (g0, w0). -/
structure Rep (g0 : Gh) (w0 : World) (g : Gh) (w : World) (σ : St) (a : Act) (N : Nat) : Prop where
  env : ∀ t v, σ.tmp t = some v → ∃ c, a.tmps[t]? = some c ∧ VRel g w (.tmp t) v c
  box : ∀ k cs, σ.cells k = some cs → BoxRel g w k cs
  fresh : ∀ b, w.heap.size ≤ b → g.own b = .free
  base : (∀ b, w0.heap.size ≤ b → g0.own b = .free) ∧ GlobOk g0 w0
  evol : Evol g0 w0 g w
  defers : a.defers = []
  size : N ≤ a.tmps.size
  live : ∀ k b, g.at_ k = some b → ∃ cs, σ.cells k.base = some cs
  nones : ∀ b r l, Slot.under .none r → g.own b ≠ .arr r l

/-! ### Association lists -/
theorem getA_setA {α β : Type} [DecidableEq α] (l : List (α × β)) (a b : α) (x : β) : getA (setA l a x) b = if a = b then some x else getA l b := by
  induction l with
  | nil => simp only [setA, getA]
  | cons p r ih =>
    obtain ⟨c, y⟩ := p
    simp only [setA]
    by_cases h : c = a
    · subst h
      simp only [if_true, getA]
      split <;> rfl
    · simp only [h, if_false, getA]
      by_cases h2 : c = b
      · subst h2
        simp [Ne.symm h]
      · simp only [h2, if_false, ih]
theorem getA_delA {α β : Type} [DecidableEq α] (l : List (α × β)) (a b : α) : getA (delA l a) b = if a = b then none else getA l b := by
  induction l with
  | nil => simp [delA, getA]
  | cons p r ih =>
    obtain ⟨c, y⟩ := p
    simp only [delA]
    by_cases h : c = a
    · subst h
      simp only [if_true, ih, getA]
      split <;> rfl
    · simp only [h, if_false, getA, ih]
      by_cases h2 : c = b
      · subst h2
        simp [Ne.symm h]
      · simp only [h2, if_false]
end Go.Proofs.YtacfehneeanlgaaDoor.Ev
