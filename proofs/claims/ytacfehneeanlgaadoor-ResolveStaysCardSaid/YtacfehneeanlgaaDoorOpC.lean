/- What the evaluator's operations write stands for what the model's operations leave: append, as a whole. What the evaluator's operations write stands for what the model's operations leave: parts, literals, conversions. What the evaluator's operations write stands for what the model's operations leave: structs and slices that are written out. -/
import Derived.Test.YtacfehneeanlgaaDoorOp9
import Derived.Lib.AppendZerosOnto
import Derived.Laws.BytesString
import Derived.Laws.Tables
namespace Go.Proofs.YtacfehneeanlgaaDoor.Ev
open Go
set_option linter.unusedVariables false
set_option linter.unusedSimpArgs false
section
variable {P : Program} {I : Info} {g0 g : Gh} {w0 w : World} {σ : St} {a : Act} {N : Nat} {o : Oper} {ops : List Oper} {next : Act → World → Prop} {Q : Exit → Act → World → Prop} {ws : List W} {b : Bool}

theorem DRel.oneCell {st : Nat → Nat → Prop} {ct : CT} {d : D} {c : Value} (h : DRel st w ct d c) : c.oneCell' = true := by
  cases h <;> rfl
theorem RowVals.oneCell {st : Nat → Nat → Prop} {cts : List CT} {xs : List (List D)} {us : List Value} (h : RowVals st w cts xs us) : ∀ u ∈ us, u.oneCell' = true := by
  intro u hu
  obtain ⟨p, hp, rfl⟩ := List.getElem_of_mem hu
  rw [h.1] at hp
  have h0 : 0 < cts.length := by
    rcases Nat.eq_zero_or_pos cts.length with h0 | h0
    · rw [h0] at hp; omega
    · exact h0
  obtain ⟨u, h1, h2⟩ := h.2 (p / cts.length) (p % cts.length) _ (Nat.div_lt_of_lt_mul (by rw [Nat.mul_comm]; exact hp)) (List.getElem?_eq_getElem (Nat.mod_lt _ h0))
  rw [Nat.mul_comm, Nat.div_add_mod] at h1
  rw [(List.getElem?_eq_some_iff.1 h1).2]
  exact h2.oneCell
theorem rowVals_nil {st : Nat → Nat → Prop} (cts : List CT) : RowVals st w cts [] [] := ⟨by simp, fun i j c hi => absurd hi (by simp)⟩
theorem rowVals_bytes {st : Nat → Nat → Prop} (s : ByteArray) : RowVals st w [.int .u8] (bytesRow s) (s.data.toList.map fun b => Value.int .u8 (b.toNat : Int)) := by
  refine ⟨by simp [bytesRow], fun i j c hi hj => ?_⟩
  have hlen : (bytesRow s).length = s.data.toList.length := by simp [bytesRow]
  cases j with
  | succ j => simp at hj
  | zero =>
    simp at hj
    subst hj
    have hi' : i < s.data.toList.length := by omega
    refine ⟨.int .u8 (s.data.toList[i].toNat : Int), by simp [List.getElem?_eq_getElem hi'], ?_⟩
    have : ((bytesRow s).getD i []).getD 0 default = D.int (s.data.toList[i].toNat : Int) := by
      have e1 : (bytesRow s)[i]? = some [D.int (s.data.toList[i].toNat : Int)] := by
        unfold bytesRow
        rw [List.getElem?_map, List.getElem?_eq_getElem hi']
        rfl
      rw [List.getD_eq_getElem?_getD (l := bytesRow s), e1]
      rfl
    rw [this]
    exact DRel.int .u8 (.int _)
/-- What is appended. -/
theorem source {s : Slot} {cts : List CT} {u : V} {c : Value} {ys : List (List D)} (hv : VRel g w s u c) (hy : rowsOf cts u = some ys) :
    ∃ news, RowVals g.stable w cts ys news ∧ (∀ w' : World, (Builtin.lenOf c).run P w' = .ok ys.length w') ∧ (∀ w' : World, w'.heap = w.heap → (Builtin.firstCells cts.length ys.length c).run P w' = .ok news.toArray w') := by
  have slice : ∀ xs, DRel g.stable w (.arr cts) (.arr xs) c → ∃ news, RowVals g.stable w cts xs news ∧ (∀ w' : World, (Builtin.lenOf c).run P w' = .ok xs.length w') ∧ (∀ w' : World, w'.heap = w.heap → (Builtin.firstCells cts.length xs.length c).run P w' = .ok news.toArray w') := by
    intro xs hx
    rcases row_inv (s := s) hx with ⟨rfl, p, rfl⟩ | ⟨b, q, cap, rfl, _, _⟩
    · exact ⟨[], rowVals_nil _, fun w' => by simp [nilSlice, Builtin.lenOf], fun w' _ => by
        cases p with
        | none => simp [nilSlice, Builtin.firstCells]
        | some q => simpa [Builtin.firstCells] using run_loadCells_list (P := P) w' q [] (fun j v hj => by simp at hj)⟩
    · obtain ⟨us, h1, h2⟩ := rowVals_of hx
      refine ⟨us, h1, fun w' => by simp [Builtin.lenOf], fun w' hw => ?_⟩
      exact run_firstCells_some w' cts.length xs.length (pl b q) xs.length cap us h1.1 (fun j v hj => by rw [pl_add]; have := (h2 j v hj).2; simp only [World.cell?, hw] at this ⊢; exact this)
  cases u with
  | arr ct xs =>
    simp only [rowsOf] at hy
    split at hy
    · rename_i e
      cases hy
      rw [sameCTs_eq _ _ e] at hv
      exact slice _ (arr_d hv)
    · cases hy
  | own ct xs =>
    simp only [rowsOf] at hy
    split at hy
    · rename_i e
      cases hy
      rw [sameCTs_eq _ _ e] at hv
      exact slice _ (own_d hv)
    · cases hy
  | val v =>
    have e := val_inv hv
    subst e
    simp only [rowsOf] at hy
    split at hy
    · simp_all
    · simp_all
    · rename_i e
      cases e
      cases hy
      exact ⟨[], rowVals_nil _, fun w' => by simp [Builtin.lenOf], fun w' _ => by simp [Builtin.firstCells]⟩
    · rename_i e
      cases e
      cases hy
      exact ⟨[], rowVals_nil _, fun w' => by simp [Builtin.lenOf], fun w' _ => by simp [Builtin.firstCells]; exact run_loadCells_list (P := P) w' _ [] (fun j v hj => by simp at hj)⟩
    · rename_i st' e
      cases e
      split at hy
      · rename_i e
        cases hy
        rw [sameCTs_eq _ _ e]
        refine ⟨_, rowVals_bytes st', fun w' => by simp [Builtin.lenOf, bytesRow], fun w' _ => ?_⟩
        have : (bytesRow st').length = st'.size := by simp [bytesRow]
        rw [this]
        simp [Builtin.firstCells]
        apply Array.ext'
        simp
      · cases hy
    · cases hy
  | _ => cases hy

theorem tellAll_get : ∀ {cts : List CT} {vs : List V} {ds : List D}, tellAll cts vs = some ds → ∀ (j : Nat) (c : CT), cts[j]? = some c → ∃ v d, vs[j]? = some v ∧ ds[j]? = some d ∧ c.tell v = some d
  | [], [], ds, h, j, c, hc => by simp at hc
  | c0 :: cts, v0 :: vs, ds, h, j, c, hc => by
    simp only [tellAll] at h
    split at h
    · rename_i d0 ds0 h0 hs
      cases h
      cases j with
      | zero => simp at hc; subst hc; exact ⟨v0, d0, rfl, rfl, h0⟩
      | succ j =>
        obtain ⟨v, d, h1, h2, h3⟩ := tellAll_get hs j c (by simpa using hc)
        exact ⟨v, d, by simpa using h1, by simpa using h2, h3⟩
    · cases h
  | [], _ :: _, _, h, _, _, _ => by simp [tellAll] at h
  | _ :: _, [], _, h, _, _, _ => by simp [tellAll] at h
/-- Zero rows. -/
theorem zero_rows {cts : List CT} {z : Value} {row : List D} {st : Nat → Nat → Prop} (hrow : tellAll cts (z.cells.toList.map V.val) = some row) (hzc : z.cells.size = cts.length) (m : Nat) : RowVals g.stable w cts (List.replicate m row) (Builtin.zeroCells z.cells m).toList := by
  have hsz : (Builtin.zeroCells z.cells m).toList.length = m * cts.length := by simp [size_zeroCells, hzc]
  refine ⟨by rw [hsz]; simp, fun i j ct hi hj => ?_⟩
  have him : i < m := by simpa using hi
  obtain ⟨v, d', hv, hd', htell⟩ := tellAll_get hrow j ct hj
  have hjl : j < cts.length := (List.getElem?_eq_some_iff.1 hj).1
  simp only [List.getElem?_map, Option.map_eq_some_iff] at hv
  obtain ⟨u, hu, rfl⟩ := hv
  have hlt : i * cts.length + j < m * cts.length := by
    have : (i + 1) * cts.length ≤ m * cts.length := Nat.mul_le_mul_right _ (by omega)
    rw [Nat.add_mul] at this
    omega
  have hmod : (i * cts.length + j) % cts.length = j := by rw [Nat.mul_comm, Nat.mul_add_mod, Nat.mod_eq_of_lt hjl]
  refine ⟨u, ?_, ?_⟩
  · have hlt' : j < z.cells.size := by omega
    have : (Builtin.zeroCells z.cells m).toList[i * cts.length + j]? = some (z.cells[(i * cts.length + j) % z.cells.size]!) := by
      unfold Builtin.zeroCells
      rw [Array.toList_map, Array.toList_range, List.getElem?_map, hzc, List.getElem?_range hlt]
      rfl
    rw [this, hzc, hmod, getElem!_pos z.cells _ hlt']
    have hu' : z.cells[j]? = some u := by simpa using hu
    rw [Array.getElem?_eq_getElem hlt'] at hu'
    exact hu'
  · have e3 : (List.replicate m row).getD i [] = row := by simp [List.getD_eq_getElem?_getD, him]
    have e4 : row.getD j default = d' := by rw [List.getD_eq_getElem?_getD, hd']; rfl
    rw [e3, e4]
    exact tell_rel (s := .none) htell (.val _ _)
/-- How the model appends what there is to append. -/
structure AppSrc (P : Program) (t t2 : TypeId) (i : TypeInfo) (z x : Value) (e : TypeId) (w : World) (m : Nat) (news : List Value) : Prop where
  room : ∀ {ty : TypeId} {b q n cap : Nat} {w' : World}, n + m ≤ cap → (storeCells (pl b (q + n * i.size)) news).run P w = .ok () w' → (Builtin.append_ #[t, t2] ty #[.slice (some (pl b q)) n cap, x]).run P w = .ok (.slice (some (pl b q)) (n + m) cap) w'
  none : m = 0 → ∀ {ty : TypeId} (p : Option Addr), (Builtin.append_ #[t, t2] ty #[.slice p 0 0, x]).run P w = .ok (.slice p 0 0) w
  grow : ∀ {ty : TypeId} {base : Option Addr} {n cap : Nat} {olds : List Value}, n ≤ cap → (Builtin.firstCells i.size n (.slice base n cap)).run P w.drew = .ok olds.toArray w.drew → cap < n + m → ((n + m : Nat) : Int) ≤ 9223372036854775807 → m * i.bytes ≤ 281474976710656 → Builtin.nextslicecap (n + m) cap * i.bytes ≤ 281474976710656 →
    (Builtin.append_ #[t, t2] ty #[.slice base n cap, x]).run P w = .ok (.slice (some (pl w.heap.size 0)) (n + m) (grownCap w (n + m) cap e)) (w.drew.alloc (.cells (olds.toArray ++ news.toArray ++ Builtin.zeroCells z.cells (grownCap w (n + m) cap e - (n + m))) e))
theorem appSrc_rows {t t2 e : TypeId} {i : TypeInfo} {z x : Value} {d2 : TypeDesc} (ht : P.underlying t = some (.slice e)) (hi : P.info? e = some i) (hz : i.zero = some z) (h2 : P.underlying t2 = some d2) (hni : ∀ k, d2 ≠ .int k) {m : Nat} {news : List Value} (hm : news.length = 0 ∨ m ≠ 0) (hl : ∀ w : World, (Builtin.lenOf x).run P w = .ok m w)
    (hf : ∀ w' : World, w'.heap = w.heap → (Builtin.firstCells i.size m x).run P w' = .ok news.toArray w') : AppSrc P t t2 i z x e w m news where
  room := fun hr hst => append_room ht hi h2 hni hl (hf w rfl) hr hst
  none := fun h0 {_} p => by
    subst h0
    rcases hm with hm | hm
    · have : news = [] := List.eq_nil_of_length_eq_zero hm
      subst this
      exact append_none ht hi h2 hni hl (hf w rfl) p
    · exact absurd rfl hm
  grow := fun _ hfo hg h63 _ hfit => append_grow ht hi hz h2 hni hl hfo (hf w.drew rfl) hg h63 hfit
theorem appSrc_zeros {t t2 e : TypeId} {i : TypeInfo} {z : Value} {k kn : IntKind} (ht : P.underlying t = some (.slice e)) (hi : P.info? e = some i) (hz : i.zero = some z) (h2 : P.underlying t2 = some (.int kn)) (hs : 0 < i.size) {m : Nat} (hmb : m * i.bytes ≤ 281474976710656) (hm : m ≤ 70368744177664) :
    AppSrc P t t2 i z (.int k (m : Int)) e w m (Builtin.zeroCells z.cells m).toList where
  room := fun {ty b q n cap w'} hr hst => by
    have hw : IntKind.i64.wrap (m : Int) = m := by rw [IntKind.wrap_i64]; omega
    have h48i : ¬ (281474976710656 < (m : Int) * (i.bytes : Int)) := by rw [← Int.natCast_mul]; omega
    have hneg : ¬ ((m : Int) < 0) := by omega
    by_cases hm0 : m * i.size = 0
    · have hm00 : m = 0 := by
        rcases Nat.mul_eq_zero.1 hm0 with h | h
        · exact h
        · omega
      subst hm00
      have hz0 : (Builtin.zeroCells z.cells 0) = #[] := by apply Array.ext'; simp [Builtin.zeroCells]
      rw [hz0] at hst
      simp [storeCells, Sem.run] at hst
      subst hst
      have hw0 : IntKind.i64.wrap 0 = 0 := by simpa using hw
      simp at hr
      simp [Builtin.append_, und_run ht, und_run h2, size_run hi, typeInfo, hi, asInt, asIntOf, hw0, hr, storeCells]
    · have hmne : ¬ (m = 0 ∨ i.size = 0) := by intro hh; rcases hh with hh | hh <;> simp [hh] at hm0
      simp [Builtin.append_, und_run ht, und_run h2, size_run hi, typeInfo, zeroValue, hi, hz, asInt, asIntOf, hw, hneg, h48i, hr, hmne, pl_add]
      rw [if_neg hm0, hst]
      rfl
  none := fun h0 {ty} p => by
    subst h0
    have hw0 : IntKind.i64.wrap 0 = 0 := by rw [IntKind.wrap_i64]; rfl
    cases p <;> simp [Builtin.append_, und_run ht, und_run h2, size_run hi, typeInfo, hi, asInt, asIntOf, hw0, storeCells]
  grow := fun {ty base n cap olds} hnc hfo hg h63 hb hfit => by
    by_cases hm0 : m = 0
    · omega
    · have := Lib.run_append_grow_zeros w t t2 ty e i z k kn ht h2 hi hz base n cap olds hfo m (by omega) hs hg h63 hb hfit
      simpa using this

theorem getElem?_of_take {α : Type} {l : Array α} {p : Nat} {u : α} {xs ys : List α} (h : l = (xs ++ ys).toArray) (hp : xs[p]? = some u) : l[p]? = some u := by
  subst h
  simp only [List.getElem?_toArray]
  rw [List.getElem?_append_left (List.getElem?_eq_some_iff.1 hp).1]
  exact hp
/-- A slice in a new block of its own. -/
theorem Rep.grown (h : Rep g0 w0 g w σ a N) {d : Nat} (hd : d < N) {cts : List CT} {xs : List (List D)} {us rest : List Value} {cap : Nat} {e : TypeId} (hv : RowVals g.stable w cts xs us) (hcap : xs.length ≤ cap) (hm : cap ≤ maxLen) (hsz : us.length + rest.length = cap * cts.length) :
    ∃ g', Rep g0 w0 g' (w.alloc (.cells (us ++ rest).toArray e)) (σ.put (.tmp d (some (.own cts xs)))) (a.put (some d) (.slice (some (pl w.heap.size 0)) xs.length cap)) N := by
  have h1 := h.newBlock (.cells (us ++ rest).toArray e) (.arr (.tmp d) (xs.length * cts.length)) (by
    rintro r l e' hu
    cases e'
    have := Slot.under_root hu
    simp [Slot.root] at this)
  refine ⟨_, h1.putTmp hd (.own _ _ _ _ ?_ (.inr (.inr ⟨w.heap.size, cap, _, (e, (0, 0)), rfl, hcap, hm, by simp [Gh.set], heap_push_new w _, by simp; omega, unfz_none _⟩)))⟩
  refine (hv.mono (stable_push h _ _)).drel hcap hm (fun p u hp => ?_)
  obtain ⟨hlt, _⟩ := List.getElem?_eq_some_iff.1 hp
  rw [hv.1] at hlt
  refine ⟨by simp only [Gh.stable, Gh.set, if_true, Nat.zero_add]; exact hlt, ?_⟩
  simp only [World.cell?, Nat.zero_add, heap_push_new]
  simp [List.getElem?_append_left (List.getElem?_eq_some_iff.1 hp).1, hp]

theorem uni_of_rows {st : Nat → Nat → Prop} {cts : List CT} {xs : List (List D)} {us : List Value} {cur : Array Value} (hr : RowVals st w cts xs us) (hc : ∀ (p : Nat) (u : Value), us[p]? = some u → cur[p]? = some u) :
    ∀ (i j : Nat) (ct : CT), i < xs.length → cts[j]? = some ct → ∃ v, cur[i * cts.length + j]? = some v ∧ DRel st w ct ((xs.getD i []).getD j default) v := by
  intro i j ct hi hj
  obtain ⟨u, h1, h2⟩ := hr.2 i j ct hi hj
  exact ⟨u, hc _ _ h1, h2⟩
theorem rows_of_uni {st : Nat → Nat → Prop} {cts : List CT} {xs : List (List D)} {cur : Array Value} {cap : Nat} (hn : xs.length ≤ cap) (hs : cur.size = cap * cts.length)
    (h : ∀ (i j : Nat) (ct : CT), i < xs.length → cts[j]? = some ct → ∃ v, cur[i * cts.length + j]? = some v ∧ DRel st w ct ((xs.getD i []).getD j default) v) : ∃ us, RowVals st w cts xs us ∧ ∀ (p : Nat) (u : Value), us[p]? = some u → cur[p]? = some u := by
  have hle : xs.length * cts.length ≤ cur.size := by rw [hs]; exact Nat.mul_le_mul_right _ hn
  have hget : ∀ p, p < xs.length * cts.length → (cur.toList.take (xs.length * cts.length))[p]? = cur[p]? := fun p hp => by rw [List.getElem?_take, if_pos hp]; simp
  refine ⟨cur.toList.take (xs.length * cts.length), ⟨by simp; omega, fun i j ct hi hj => ?_⟩, fun p u hp => ?_⟩
  · obtain ⟨v, h1, h2⟩ := h i j ct hi hj
    have hjl : j < cts.length := (List.getElem?_eq_some_iff.1 hj).1
    have hlt : i * cts.length + j < xs.length * cts.length := by
      have := Nat.mul_le_mul_right cts.length (show i + 1 ≤ xs.length from hi)
      rw [Nat.add_mul] at this
      omega
    exact ⟨v, by rw [hget _ hlt]; exact h1, h2⟩
  · have hlt : p < xs.length * cts.length := by
      have := (List.getElem?_eq_some_iff.1 hp).1
      simp at this
      omega
    rw [hget _ hlt] at hp
    exact hp
/-- A slice in a new block of its own, of which there is no other view. -/
theorem Rep.grownUni (h : Rep g0 w0 g w σ a N) {d : Nat} (hd : d < N) {cts : List CT} {xs : List (List D)} {us rest : List Value} {cap : Nat} {e : TypeId} (hv : RowVals g.stable w cts xs us) (hcap : xs.length ≤ cap) (hm : cap ≤ maxLen) (hsz : us.length + rest.length = cap * cts.length) :
    ∃ g', Rep g0 w0 g' (w.alloc (.cells (us ++ rest).toArray e)) (σ.put (.tmp d (some (.uni cts xs)))) (a.put (some d) (.slice (some (pl w.heap.size 0)) xs.length cap)) N := by
  have h1 := h.newBlock (.cells (us ++ rest).toArray e) (.arr (.tmp d) 0) (by
    rintro r l e' hu
    cases e'
    have := Slot.under_root hu
    simp [Slot.root] at this)
  refine ⟨_, h1.putTmp hd (.uni _ _ _ _ (.inr ⟨w.heap.size, cap, _, (e, (0, 0)), rfl, hcap, hm, by simp [Gh.set], heap_push_new w _, ⟨by simp; omega, unfz_none _⟩, ?_⟩))⟩
  exact uni_of_rows (hv.mono (stable_push h _ _)) fun p u hp => by simp [List.getElem?_append_left (List.getElem?_eq_some_iff.1 hp).1, hp]

theorem op_append {args : Array Operand} {ats : Array TypeId} (ho : o.op = .call ⟨.builtin .append, args, ats⟩) (hok : InfoOk P I) (h : Rep g0 w0 g w σ a N) (hd : ∀ t, o.dst = some t → t < N) (hdn : o.dst ≠ none) (hr : (opM I ops o).run σ = some (true, ws)) (hn : ∀ g' a' w', Rep g0 w0 g' w' (σ.puts ws) a' N → next a' w') : o.wp P a w next Q := by
  unfold opM at hr
  rw [ho] at hr
  simp only at hr
  split at hr
  case h_2 => cases hr
  rename_i s x t t2 ha hat
  obtain rfl : args = #[s, x] := by cases args; simp_all
  obtain rfl : ats = #[t, t2] := by cases ats; simp_all
  clear ha hat
  split at hr
  case h_2 => cases hr
  rename_i e d2 ht ht2
  split at hr
  case h_2 => cases hr
  rename_i cts by_ hcts hby hd2
  cases hzz : I.zero e with
  | none => rw [hzz] at hr; cases hr
  | some zs =>
  rw [hzz] at hr
  simp only at hr
  split at hr
  case isFalse => cases hr
  rename_i hz
  simp only [Bool.and_eq_true, decide_eq_true_eq] at hz
  obtain ⟨hz, hpos⟩ := hz
  obtain ⟨v, hr1, hv, hx, hp⟩ := opd_sound h hr
  clear hr
  obtain ⟨u, hr, hu, -, -⟩ := opd_sound h hr1
  clear hr1
  split at hr
  case h_2 => cases hr
  rename_i ys hys
  obtain ⟨d, hdd⟩ := Option.ne_none_iff_exists'.1 hdn
  obtain ⟨inf, hinf, hisz⟩ := hok.cts hcts
  obtain ⟨inf2, hinf2, hib⟩ := hok.bytes hby
  have : inf2 = inf := Option.some.inj (hinf2.symm.trans hinf)
  subst this
  obtain ⟨inf3, z, hinf3, hz1, hz2⟩ := hok.zero hzz
  have : inf3 = inf2 := Option.some.inj (hinf3.symm.trans hinf)
  subst this
  have hzlen : z.cells.size = cts.length := by rw [← hz, hz2]; simp
  have hsz : 0 < inf3.size := by rw [hisz]; exact hpos
  have key : ys.length ≤ 70368744177664 → ys.length * inf3.bytes ≤ 281474976710656 → ∃ news, RowVals g.stable w cts ys news ∧ AppSrc P t t2 inf3 z (a.eval x) e w ys.length news := by
    intro hm1 hm2
    by_cases hint : ∃ k, d2 = .int k
    · obtain ⟨kn, rfl⟩ := hint
      simp only [srcRows, hzz, Option.getD_some] at hys
      split at hys
      · rename_i k n
        split at hys
        · rename_i h0
          obtain ⟨row, hrow, rfl⟩ := Option.map_eq_some_iff.1 hys
          have hx' := val_inv hu
          have hn' : ((n.toNat : Nat) : Int) = n := by omega
          rw [List.length_replicate] at hm1 hm2 ⊢
          refine ⟨_, zero_rows (st := g.stable) (by rw [← hz2]; exact hrow) hzlen n.toNat, ?_⟩
          rw [hx']
          have := appSrc_zeros (P := P) (w := w) (k := k) (hok.und ht) hinf hz1 (hok.und ht2) hsz (m := n.toNat) hm2 hm1
          rw [hn'] at this
          exact this
        · cases hys
      · cases hys
    · have hni : ∀ k, d2 ≠ .int k := fun k e => hint ⟨k, e⟩
      have hys' : rowsOf cts u = some ys := by
        unfold srcRows at hys
        split at hys
        · rename_i k; exact absurd rfl (hni k)
        · exact hys
      obtain ⟨news, hnews, hlen, hfirst⟩ := source (P := P) hu hys'
      refine ⟨news, hnews, appSrc_rows (hok.und ht) hinf hz1 (hok.und ht2) hni ?_ hlen (fun w' hw' => by rw [hisz]; exact hfirst w' hw')⟩
      by_cases h0 : ys.length = 0
      · left; rw [hnews.1, h0, Nat.zero_mul]
      · exact .inr h0
  have he : execOp a.eval o = (Builtin.append_ #[t, t2] o.type #[a.eval s, a.eval x]).bind fun v => .pure (.value v) := by
    rw [callBuiltin ho, show (#[s, x] : Array Operand).map a.eval = #[a.eval s, a.eval x] by simp]; rfl
  have grow : ∀ (uq : Bool) (σ1 : St) (xs : List (List D)) (us : List Value) (base : Option Addr) (cap : Nat), Rep g0 w0 g w σ1 a N → RowVals g.stable w cts xs us → a.eval s = .slice base xs.length cap → (∀ w' : World, w'.heap = w.heap → (Builtin.firstCells cts.length xs.length (.slice base xs.length cap)).run P w' = .ok us.toArray w') →
      xs.length ≤ cap → ∀ (news : List Value), RowVals g.stable w cts ys news → AppSrc P t t2 inf3 z (a.eval x) e w ys.length news → cap < xs.length + ys.length → (xs.length + ys.length) * by_ ≤ 70368744177664 → xs.length + ys.length ≤ 70368744177664 → (∀ g' a' w', Rep g0 w0 g' w' (σ1.put (.tmp d (some (if uq then .uni cts (xs ++ ys) else .own cts (xs ++ ys))))) a' N → next a' w') → o.wp P a w next Q := by
    intro uq σ1 xs us base cap h1 hus hs hfo hnc news hnews hsrc hlt hb hb2 hn
    have hle2 : ys.length * by_ ≤ (xs.length + ys.length) * by_ := Nat.mul_le_mul_right _ (by omega)
    have hrun := hsrc.grow (ty := o.type) (base := base) (n := xs.length) (cap := cap) (olds := us) hnc (by rw [hisz]; exact hfo w.drew rfl) hlt (by omega) (by rw [hib]; omega) (growslice_fits hlt (by rw [hib]; omega))
    refine up_value (sem_run he (by rw [hs]; exact hrun)) ?_
    rw [hdd]
    have h2 : Rep g0 w0 g w.drew σ1 a N := h1.sameHeap rfl rfl rfl rfl
    have hrow := hus.append hnews
    have hge := grownCap_ge w (xs.length + ys.length) cap e
    have hle := grownCap_le_maxLen w (xs.length + ys.length) cap e (by simp only [maxLen]; omega)
    have hrow' : RowVals g.stable w.drew cts (xs ++ ys) (us ++ news) := RowVals.mono (st := g.stable) (st' := g.stable) (w := w) (w' := w.drew) (fun _ _ _ a b => ⟨a, b⟩) hrow
    have hlen2 : (us ++ news).length + (Builtin.zeroCells z.cells (grownCap w (xs.length + ys.length) cap e - (xs.length + ys.length))).toList.length = grownCap w (xs.length + ys.length) cap e * cts.length := by
      have e0 : (Builtin.zeroCells z.cells (grownCap w (xs.length + ys.length) cap e - (xs.length + ys.length))).toList.length = (grownCap w (xs.length + ys.length) cap e - (xs.length + ys.length)) * cts.length := by simp [size_zeroCells, hzlen]
      rw [hrow.1, e0, List.length_append, ← Nat.add_mul]
      congr 1
      omega
    obtain ⟨g', h3⟩ : ∃ g', Rep g0 w0 g' (w.drew.alloc (.cells (us ++ news ++ (Builtin.zeroCells z.cells (grownCap w (xs.length + ys.length) cap e - (xs.length + ys.length))).toList).toArray e)) (σ1.put (.tmp d (some (if uq then .uni cts (xs ++ ys) else .own cts (xs ++ ys))))) (a.put (some d) (.slice (some (pl w.drew.heap.size 0)) (xs ++ ys).length (grownCap w (xs.length + ys.length) cap e))) N := by
      cases uq with
      | false => exact h2.grown (d := d) (hd d hdd) (e := e) hrow' (by rw [List.length_append]; exact hge) hle hlen2
      | true => exact h2.grownUni (d := d) (hd d hdd) (e := e) hrow' (by rw [List.length_append]; exact hge) hle hlen2
    refine hn g' _ _ ?_
    have e1 : (us.toArray ++ news.toArray ++ Builtin.zeroCells z.cells (grownCap w (xs.length + ys.length) cap e - (xs.length + ys.length))) = (us ++ news ++ (Builtin.zeroCells z.cells (grownCap w (xs.length + ys.length) cap e - (xs.length + ys.length))).toList).toArray := by
      apply Array.ext'
      simp
    rw [e1]
    rw [List.length_append] at h3
    exact h3
  split at hr
  · -- nothing yet
    rename_i hve
    simp only [if_true] at hr
    obtain ⟨hb, hr⟩ := ret_ok hr
    simp only [Bool.and_eq_true, decide_eq_true_eq] at hb
    simp only [M.run, Option.some.injEq, Prod.mk.injEq, true_and] at hr
    subst hr
    have hs := val_inv hv
    rw [hdd] at hn
    obtain ⟨news, hnews, hsrc⟩ := key hb.2 (by rw [hib]; omega)
    by_cases hy0 : ys.length = 0
    · have hy : ys = [] := List.eq_nil_of_length_eq_zero hy0
      have := hsrc.none hy0 (ty := o.type) .none
      refine up_value (sem_run he (by rw [hs]; exact this)) ?_
      rw [hdd]
      rw [hy] at hn
      exact hn g _ _ (h.putTmp (hd d hdd) (.own _ _ _ _ (.nil _ _ _ rfl) (.inl rfl)))
    · refine grow false σ [] [] none 0 h (rowVals_nil _) hs (fun w' _ => by simp [Builtin.firstCells]) (by simp) news hnews hsrc (by simp; omega) (by simpa using hb.1) (by simpa using hb.2) ?_
      exact hn
  · rename_i vv d0 ct xs
    split at hr
    case isFalse => cases hr
    rename_i hsame
    obtain rfl := sameCTs_eq _ _ hsame
    have hs0 := hx d0 rfl
    have h1 := h.dropTmp d0
    have hr' : ((decide ((xs.length + ys.length) * by_ ≤ 70368744177664) && decide (xs.length + ys.length ≤ 70368744177664)) = true) ∧ W.tmp d0 none :: dstW o.dst (.uni ct (xs ++ ys)) = ws := by
      simpa only [M.run, Option.some.injEq, Prod.mk.injEq] using hr
    obtain ⟨hb, rfl⟩ := hr'
    simp only [Bool.and_eq_true, decide_eq_true_eq] at hb
    rw [hdd] at hn
    have hle2 : ys.length * by_ ≤ (xs.length + ys.length) * by_ := Nat.mul_le_mul_right _ (by omega)
    obtain ⟨news, hnews, hsrc⟩ := key (by omega) (by rw [hib]; omega)
    have hplain : ∀ u, (σ.put (.tmp d0 none)).tmp d0 = some u → u.plain := fun u hu => by simp at hu
    have hur : UniRel g w (.tmp d0) ct xs (a.eval (.tmp d0)) := by cases hv; assumption
    rcases hur with ⟨hxe, hs⟩ | ⟨b, cap, cur, e1, hs, s1, s2, s3, s4, s5, s6⟩
    · subst hxe
      by_cases hy0 : ys.length = 0
      · have hy : ys = [] := List.eq_nil_of_length_eq_zero hy0
        have := hsrc.none hy0 (ty := o.type) .none
        refine up_value (sem_run he (by rw [hs]; exact this)) ?_
        rw [hdd]
        rw [hy] at hn
        exact hn g _ _ (h1.putTmp (hd d hdd) (.uni _ _ _ _ (.inl ⟨rfl, rfl⟩)))
      · exact grow true _ [] [] none 0 h1 (rowVals_nil _) hs (fun w' _ => by simp [Builtin.firstCells]) (by simp) news hnews hsrc (by simp; omega) (by simpa using hb.1) (by simpa using hb.2) hn
    · obtain ⟨us, hus, hcells⟩ := rows_of_uni s1 s5.1 s6
      have hcell : ∀ p u, us[p]? = some u → w.cell? (pl b (0 + p)) = some u := fun p u hp => by simp only [World.cell?, s4, Nat.zero_add]; simpa using hcells p u hp
      have hfo : ∀ w' : World, w'.heap = w.heap → (Builtin.firstCells ct.length xs.length (.slice (some (pl b 0)) xs.length cap)).run P w' = .ok us.toArray w' := fun w' hw =>
        run_firstCells_some w' ct.length xs.length (pl b 0) xs.length cap us hus.1 (fun j v hj => by rw [pl_add]; have := hcell j v hj; simp only [World.cell?, hw] at this ⊢; exact this)
      by_cases hroom : xs.length + ys.length ≤ cap
      · have hfit : xs.length * ct.length + news.length ≤ cur.size := by rw [hnews.1, s5.1, ← Nat.add_mul]; exact Nat.mul_le_mul_right _ hroom
        have hcellsNew : ∀ j, j < news.length → (w.cell? (pl b (xs.length * ct.length + j))).isSome = true := fun j hj => by
          simp [World.cell?, s4, Array.getElem?_eq_getElem (show xs.length * ct.length + j < cur.size by omega)]
        have hst := run_storeCells_cells (P := P) b (xs.length * ct.length) news 0 w (fun j hj => by simpa using hcellsNew j hj) (fun j hj => by have := s5.2.at (xs.length * ct.length + j) (by omega); simpa [World.frozen?, s4] using this) hnews.oneCell
        simp only [Nat.add_zero] at hst
        have hrun := hsrc.room (ty := o.type) (b := b) (q := 0) (n := xs.length) (cap := cap) hroom (by rw [hisz, Nat.zero_add]; exact hst)
        refine up_value (sem_run he (by rw [hs]; exact hrun)) ?_
        rw [hdd]
        obtain ⟨cur', c1, c2, c3, c4, c5⟩ := setCells_block b e1.1 e1.2 news (xs.length * ct.length) w cur s4 hfit
        obtain ⟨z1, z2, z3, z4⟩ := setCells_same b news (xs.length * ct.length) w
        obtain ⟨h2, hst2⟩ := h1.change (d := d) (L' := 0) (w' := w.setCells b (xs.length * ct.length) news) s3 z1 z2 z3 z4 (fun b' hb' => setCells_heap b news _ w b' hb') (fun o c ho => by omega) (Nat.le_refl _) hplain
        refine hn _ _ _ (h2.putTmp (hd d hdd) ?_)
        rw [← List.length_append]
        refine .uni _ _ _ _ (.inr ⟨b, cap, cur', e1, rfl, by rw [List.length_append]; exact hroom, s2, by simp [Gh.set], c1, ⟨by rw [c2, s5.1], by rw [c2]; exact s5.2⟩, ?_⟩)
        refine uni_of_rows ((hus.append hnews).mono hst2) fun p u hp => ?_
        by_cases hpu : p < us.length
        · rw [List.getElem?_append_left hpu] at hp
          rw [c3 p (by rw [← hus.1]; exact hpu)]
          exact hcells p u hp
        · rw [List.getElem?_append_right (by omega)] at hp
          have h4 := c4 _ u hp
          rw [← hus.1, show us.length + (p - us.length) = p by omega] at h4
          exact h4
      · exact grow true _ xs us _ cap h1 hus hs hfo s1 news hnews hsrc (by omega) hb.1 hb.2 hn
  · rename_i vv d0 ct xs
    split at hr
    case isFalse => cases hr
    rename_i hsame
    obtain rfl := sameCTs_eq _ _ hsame
    have hs0 := hx d0 rfl
    have h1 := h.viewTmp hs0 (v' := .arr ct xs) (fun c hc => hc.view)
    have hr' : ((decide ((xs.length + ys.length) * by_ ≤ 70368744177664) && decide (xs.length + ys.length ≤ 70368744177664)) = true) ∧ W.tmp d0 (some (.arr ct xs)) :: dstW o.dst (.own ct (xs ++ ys)) = ws := by
      simpa only [M.run, Option.some.injEq, Prod.mk.injEq] using hr
    obtain ⟨hb, rfl⟩ := hr'
    simp only [Bool.and_eq_true, decide_eq_true_eq] at hb
    rw [hdd] at hn
    have hle2 : ys.length * by_ ≤ (xs.length + ys.length) * by_ := Nat.mul_le_mul_right _ (by omega)
    obtain ⟨news, hnews, hsrc⟩ := key (by omega) (by rw [hib]; omega)
    have hplain : ∀ u, (σ.put (.tmp d0 (some (.arr ct xs)))).tmp d0 = some u → u.plain := fun u hu => by simp at hu; subst hu; trivial
    have hvd := own_d hv
    have hspare : Spare g w (.tmp d0) ct.length xs.length (a.eval (.tmp d0)) := by cases hv; assumption
    have nilcase : ∀ (p : Option Addr), a.eval (.tmp d0) = .slice p 0 0 → xs = [] → o.wp P a w next Q := by
      intro p hs hxe
      subst hxe
      by_cases hy0 : ys.length = 0
      · have hy : ys = [] := List.eq_nil_of_length_eq_zero hy0
        have := hsrc.none hy0 (ty := o.type) p
        refine up_value (sem_run he (by rw [hs]; exact this)) ?_
        rw [hdd]
        rw [hy] at hn
        exact hn g _ _ (h1.putTmp (hd d hdd) (.own _ _ _ _ (.nil _ _ _ rfl) (.inr (.inl ⟨rfl, p, rfl⟩))))
      · refine grow false _ [] [] p 0 h1 (rowVals_nil _) hs (fun w' _ => ?_) (by simp) news hnews hsrc (by simp; omega) (by simpa using hb.1) (by simpa using hb.2) hn
        cases p with
        | none => simp [Builtin.firstCells]
        | some q => simpa [Builtin.firstCells] using run_loadCells_list (P := P) w' q [] (fun j v hj => by simp at hj)
    have hrow : (xs = [] ∧ ∃ p, a.eval (.tmp d0) = .slice p 0 0) ∨ ∃ b o cap, a.eval (.tmp d0) = .slice (some (pl b o)) xs.length cap ∧ xs.length ≤ cap ∧ cap ≤ maxLen := by
      rcases row_inv (s := .none) hvd with ⟨hxe, p, hs⟩ | hh
      · rcases hspare with hsp | ⟨hl0, p, hsp⟩ | ⟨b1, cap1, cur, e1, hsp, s1, s2, _⟩
        · exact .inl ⟨hxe, none, hsp⟩
        · exact .inl ⟨hxe, p, hsp⟩
        · exact .inr ⟨b1, 0, cap1, hsp, s1, s2⟩
      · exact .inr hh
    rcases hrow with ⟨hxe, p, hs⟩ | ⟨b, q, cap, hs, hc, hm⟩
    · exact nilcase p hs hxe
    · have hvd' := hvd
      rw [hs] at hvd'
      obtain ⟨us, hus, hcells⟩ := rowVals_of hvd'
      have hfo : ∀ w' : World, w'.heap = w.heap → (Builtin.firstCells ct.length xs.length (.slice (some (pl b q)) xs.length cap)).run P w' = .ok us.toArray w' := fun w' hw =>
        run_firstCells_some w' ct.length xs.length (pl b q) xs.length cap us hus.1 (fun j v hj => by rw [pl_add]; have := (hcells j v hj).2; simp only [World.cell?, hw] at this ⊢; exact this)
      by_cases hroom : xs.length + ys.length ≤ cap
      · rcases hspare with hsp | hsp | ⟨b1, cap1, cur, e1, hsp, s1, s2, s3, s4, s5⟩
        · rw [hs] at hsp; cases hsp
        · obtain ⟨hl0, p, hsp⟩ := hsp
          exact nilcase p hsp (List.eq_nil_of_length_eq_zero hl0)
        · rw [hs] at hsp
          simp only [Value.slice.injEq, Option.some.injEq, Addr.mk.injEq, and_true, true_and] at hsp
          obtain ⟨⟨rfl, rfl⟩, rfl⟩ := hsp
          have hfit : xs.length * ct.length + news.length ≤ cur.size := by rw [hnews.1, s5.1, ← Nat.add_mul]; exact Nat.mul_le_mul_right _ hroom
          have hcellsNew : ∀ j, j < news.length → (w.cell? (pl b (xs.length * ct.length + j))).isSome = true := fun j hj => by
            simp [World.cell?, s4, Array.getElem?_eq_getElem (show xs.length * ct.length + j < cur.size by omega)]
          have hst := run_storeCells_cells (P := P) b (xs.length * ct.length) news 0 w (fun j hj => by simpa using hcellsNew j hj) (fun j hj => by have := s5.2.at (xs.length * ct.length + j) (by omega); simpa [World.frozen?, s4] using this) hnews.oneCell
          simp only [Nat.add_zero] at hst
          have hrun := hsrc.room (ty := o.type) (b := b) (q := 0) (n := xs.length) (cap := cap) hroom (by rw [hisz, Nat.zero_add]; exact hst)
          refine up_value (sem_run he (by rw [hs]; exact hrun)) ?_
          rw [hdd]
          obtain ⟨h2, hst2⟩ := h1.extend (d := d) (L' := (xs ++ ys).length * ct.length) (vs := news) s3 s4 hfit (Nat.mul_le_mul_right _ (by simp)) hplain
          obtain ⟨cur', c1, c2, c3, c4, c5⟩ := setCells_block b e1.1 e1.2 news (xs.length * ct.length) w cur s4 hfit
          refine hn _ _ _ (h2.putTmp (hd d hdd) ?_)
          rw [← List.length_append]
          refine .own _ _ _ _ (((hus.append hnews).mono hst2).drel (by rw [List.length_append]; exact hroom) hm (fun p u hp => ?_)) (.inr (.inr ⟨b, cap, cur', e1, rfl, by rw [List.length_append]; exact hroom, hm, by simp [Gh.set], c1, by rw [c2, s5.1], by rw [c2]; exact s5.2⟩))
          obtain ⟨hlt, _⟩ := List.getElem?_eq_some_iff.1 hp
          rw [(hus.append hnews).1] at hlt
          refine ⟨by simp only [Gh.stable, Gh.set, if_true, Nat.zero_add]; exact hlt, ?_⟩
          simp only [World.cell?, Nat.zero_add, c1]
          by_cases hpu : p < us.length
          · rw [List.getElem?_append_left hpu] at hp
            have := (hcells p u hp).2
            simp only [World.cell?, Nat.zero_add, s4] at this
            have h3 := c3 p (by rw [← hus.1]; exact hpu)
            simpa [h3] using this
          · rw [List.getElem?_append_right (by omega)] at hp
            have h4 := c4 _ u hp
            rw [← hus.1, show us.length + (p - us.length) = p by omega] at h4
            simpa using h4
      · exact grow false _ xs us _ cap h1 hus hs hfo hc news hnews hsrc (by omega) hb.1 hb.2 hn
  · cases hr
end
end Go.Proofs.YtacfehneeanlgaaDoor.Ev
namespace Go.Proofs.YtacfehneeanlgaaDoor.Ev
open Go
set_option linter.unusedVariables false
set_option linter.unusedSimpArgs false
section
variable {P : Program} {I : Info} {g0 g : Gh} {w0 w : World} {σ : St} {a : Act} {N : Nat} {o : Oper} {ops : List Oper} {next : Act → World → Prop} {Q : Exit → Act → World → Prop} {ws : List W} {b : Bool}

theorem op_field {t : TypeId} {x : Operand} {f : Nat} (ho : o.op = .field t x f) (hok : InfoOk P I) (h : Rep g0 w0 g w σ a N) (hd : ∀ t, o.dst = some t → t < N) (hr : (opM I ops o).run σ = some (true, ws)) (hn : ∀ g' a' w', Rep g0 w0 g' w' (σ.puts ws) a' N → next a' w') : o.wp P a w next Q := by
  unfold opM at hr
  rw [ho] at hr
  obtain ⟨u, hr1, hu, -, -⟩ := opd_sound h hr
  clear hr
  split at hr1
  case h_2 => cases hr1
  rename_i fs vs ht
  cases hf : fs[f]? with
  | none => rw [hf] at hr1; cases hr1
  | some fd =>
  rw [hf] at hr1
  generalize hc : a.eval x = c at hu
  cases hu with
  | agg _ _ cs hl hfl hcs =>
    have he : execOp a.eval o = (Instr.field t (a.eval x) f).bind fun v => .pure (.value v) := by simp only [execOp, ho]; rfl
    cases hag : isAggT I fd.type with
    | none => simp only [hag] at hr1; cases hr1
    | some ag =>
    cases ag with
    | true =>
      cases hsz : I.size fd.type with
      | none => simp only [hag, hsz] at hr1; cases hr1
      | some n =>
      simp only [hag, hsz] at hr1
      obtain ⟨inf, hinf, hin⟩ := hok.size hsz
      have hrun : (Instr.field t (a.eval x) f).run P w = .ok (.agg (cs.extract fd.offset (fd.offset + n))) w := by
        simp [Instr.field, und_run (hok.und ht), hf, hc, asAgg, part, (isAgg_run hok hag w).1, size_run hinf, hin]
      refine op_plain (v := .agg ((vs.drop fd.offset).take n)) h hd (sem_run he hrun) (fun s => .agg _ _ _ ?_ (fun i v hv => ?_) (fun i v c hv hc => ?_)) hr1 hn
      · simp; omega
      · rw [List.getElem?_take] at hv
        split at hv
        · rw [List.getElem?_drop] at hv; exact hfl _ v hv
        · cases hv
      · rw [List.getElem?_take] at hv
        split at hv
        · rw [List.getElem?_drop] at hv
          rw [Array.getElem?_extract] at hc
          split at hc
          · exact hcs _ v c hv hc
          · cases hc
        · cases hv
    | false =>
      simp only [hag] at hr1
      cases hv : vs[fd.offset]? with
      | none => rw [hv] at hr1; cases hr1
      | some v =>
      rw [hv] at hr1
      obtain ⟨hlt, _⟩ := List.getElem?_eq_some_iff.1 hv
      have hcv : cs[fd.offset]? = some cs[fd.offset] := Array.getElem?_eq_getElem (by omega)
      have hrun : (Instr.field t (a.eval x) f).run P w = .ok cs[fd.offset] w := by
        simp [Instr.field, und_run (hok.und ht), hf, hc, asAgg, part, (isAgg_run hok hag w).1, hcv]
      have hvr := (hcs _ v _ hv hcv)
      have hfv := hfl _ v hv
      simp only [M.run, Option.some.injEq, Prod.mk.injEq, true_and] at hr1
      subst hr1
      exact up_value (sem_run he hrun) (hn g _ _ (h.dst hd (fun s => hvr.viewed (by rintro _ rfl; exact hfv))))

theorem op_minmax {bt : Builtin} {args : Array Operand} {ats : Array TypeId} (hb : bt = .min ∨ bt = .max) (ho : o.op = .call ⟨.builtin bt, args, ats⟩) (h : Rep g0 w0 g w σ a N) (hd : ∀ t, o.dst = some t → t < N) (hr : (opM I ops o).run σ = some (true, ws)) (hn : ∀ g' a' w', Rep g0 w0 g' w' (σ.puts ws) a' N → next a' w') : o.wp P a w next Q := by
  unfold opM at hr
  rw [ho] at hr
  rcases hb with rfl | rfl
  all_goals
    simp only at hr
    split at hr
    case h_2 => cases hr
    rename_i x y hargs
    obtain rfl : args = #[x, y] := by cases args; simp_all
    obtain ⟨u, hr1, hu, -, -⟩ := opd_sound h hr
    clear hr
    obtain ⟨v, hr, hv, -, -⟩ := opd_sound h hr1
    clear hr1
    split at hr
    case h_2 => cases hr
    have e1 := val_inv hu
    have e2 := val_inv hv
    split at hr
    case isFalse => cases hr
    rename_i hk
    subst hk
  · refine op_plain h hd (sem_run (s := Builtin.min_ ats o.type #[a.eval x, a.eval y]) (by rw [callBuiltin ho, show (#[x, y] : Array Operand).map a.eval = #[a.eval x, a.eval y] by simp]; rfl) ?_) (fun _ => .val _ _) hr hn
    simp [Builtin.min_, Builtin.min2, e1, e2, List.foldlM]
  · refine op_plain h hd (sem_run (s := Builtin.max_ ats o.type #[a.eval x, a.eval y]) (by rw [callBuiltin ho, show (#[x, y] : Array Operand).map a.eval = #[a.eval x, a.eval y] by simp]; rfl) ?_) (fun _ => .val _ _) hr hn
    simp [Builtin.max_, Builtin.max2, e1, e2, List.foldlM]

theorem push_all : ∀ (ns : List Int) (s : ByteArray), ns.foldl (fun r n => r.push (UInt8.ofNat n.toNat)) s = ⟨s.data ++ (ns.map fun n => UInt8.ofNat n.toNat).toArray⟩
  | [], s => by simp
  | n :: ns, s => by
    rw [List.foldl_cons, push_all ns]
    simp [ByteArray.push]
theorem op_convert {s t : TypeId} {x : Operand} (ho : o.op = .convert s t x) (hok : InfoOk P I) (h : Rep g0 w0 g w σ a N) (hd : ∀ t, o.dst = some t → t < N) (hr : (opM I ops o).run σ = some (true, ws)) (hn : ∀ g' a' w', Rep g0 w0 g' w' (σ.puts ws) a' N → next a' w') : o.wp P a w next Q := by
  unfold opM at hr
  rw [ho] at hr
  obtain ⟨u, hr1, hu, hux, -⟩ := opd_sound h hr
  clear hr
  have he : execOp a.eval o = (convert s t (a.eval x)).bind fun v => .pure (.value v) := by simp only [execOp, ho]; rfl
  split at hr1
  · rename_i hs ht
    have e := val_inv hu
    exact op_plain h hd (sem_run he (by simp [convert, und_run (hok.und hs), und_run (hok.und ht), e, Conv.intToInt])) (fun _ => .val _ _) hr1 hn
  · rename_i hs ht
    have e := val_inv hu
    exact op_plain h hd (sem_run he (by simp [convert, und_run (hok.und hs), und_run (hok.und ht), e])) (fun _ => .val _ _) hr1 hn
  · rename_i e0 e1 hs ht
    split at hr1
    case h_2 => cases hr1
    rename_i s0 ct xs hu8
    split at hr1
    case isFalse => cases hr1
    rename_i hcc
    obtain ⟨rfl, hpos⟩ := hcc
    simp only [M.run, Option.some.injEq, Prod.mk.injEq, true_and] at hr1
    subst hr1
    have hx := hux s0 rfl
    have hdr := own_d hu
    have hsp : Spare g w (.tmp s0) ct.length xs.length (a.eval (.tmp s0)) := by
      generalize a.eval (.tmp s0) = cv at hu
      cases hu; assumption
    rcases hsp with hsp | hsp | ⟨b, cap, cur, e, hsp, q1, q2, q3, q4, q5⟩
    · rcases row_inv (s := .none) hdr with ⟨rfl, _⟩ | ⟨b, q, cap, e, _⟩
      · simp at hpos
      · rw [hsp] at e; cases e
    · exact absurd hsp.1 (by omega)
    · have h1 := h.viewTmp hx (v' := .arr ct xs) (fun c hc => hc.view)
      have hheap : ∀ b', (w.freeze (pl b cur.size) 1).heap[b']? = if b = b' then some (.cells cur e.1 (if e.2.1 == e.2.2 then (cur.size, cur.size + 1) else (min e.2.1 cur.size, max e.2.2 (cur.size + 1)))) else w.heap[b']? := by
        intro b'
        unfold World.freeze
        rw [if_neg (by decide)]
        simp only [Array.getElem?_modify]
        by_cases eb : b = b'
        · subst eb
          simp [q4]
        · simp [eb]
      have chg : ∀ d, ∃ g', Rep g0 w0 g' (w.freeze (pl b cur.size) 1) (σ.put (.tmp s0 (some (.arr ct xs)))) a N ∧ (∀ b' o c, g.stable b' o → w.cell? (pl b' o) = some c → g'.stable b' o ∧ (w.freeze (pl b cur.size) 1).cell? (pl b' o) = some c) ∧ g'.own b = .arr (.tmp d) (xs.length * ct.length) := fun d => by
        obtain ⟨h2, hst⟩ := h1.change (d := d) (L' := xs.length * ct.length) (w' := w.freeze (pl b cur.size) 1) q3 rfl rfl rfl (by simp [World.freeze]) (fun b' hb' => by rw [hheap, if_neg (fun e => hb' e.symm)]) (fun p c _ hc => by
          simp only [World.cell?, q4] at hc
          simp only [World.cell?, hheap, if_true]
          exact hc) (Nat.le_refl _) (fun u hu => by simp at hu; subst hu; trivial)
        exact ⟨_, h2, hst, by simp [Gh.set]⟩
      have hsh : w.shape? b = some (e.1, cur.size) := by unfold World.shape?; rw [q4]
      have hrun : (convert s s (a.eval (.tmp s0))).run P w = .ok (a.eval (.tmp s0)) (w.freeze (pl b cur.size) 1) := by
        rw [hsp]
        simp [convert, und_run (hok.und hs), und_run (hok.und hu8), markStringish, hsh]
      have hunf : Unfz cur.size (if e.2.1 == e.2.2 then (cur.size, cur.size + 1) else (min e.2.1 cur.size, max e.2.2 (cur.size + 1))) := by
        right
        split
        · exact Nat.le_refl _
        · rename_i hne
          rcases q5.2 with h0 | h0
          · rw [h0] at hne; simp at hne
          · simp; omega
      refine up_value (sem_run he hrun) ?_
      cases hdd : o.dst with
      | none =>
        obtain ⟨g', h2, -⟩ := chg s0
        have := hn g' (a.put o.dst (a.eval (.tmp s0))) _ (by rw [hdd]; exact h2)
        rwa [hdd] at this
      | some d =>
        obtain ⟨g', h2, hst, ho'⟩ := chg d
        have h3 := h2.putTmp (d := d) (v := .own ct xs) (c := a.eval (.tmp s0)) (hd d hdd) (.own _ _ _ _ (hdr.mono hst) (.inr (.inr ⟨b, cap, cur, (e.1, (if e.2.1 == e.2.2 then (cur.size, cur.size + 1) else (min e.2.1 cur.size, max e.2.2 (cur.size + 1)))), hsp, q1, q2, ho', by rw [hheap, if_pos rfl], q5.1, hunf⟩)))
        have := hn g' (a.put o.dst (a.eval (.tmp s0))) _ (by rw [hdd]; exact h3)
        rwa [hdd] at this
  · rename_i e0 hs ht
    have slice : ∀ xs, I.und e0 = some (.int .u8) → DRel g.stable w (.arr [.int .u8]) (.arr xs) (a.eval x) → (convert s t (a.eval x)).run P w = .ok (.string (rowBytes xs)) w := by
      intro xs hu8 hx
      rcases row_inv (s := .none) hx with ⟨rfl, p, e⟩ | ⟨b, q, cap, e, _, _⟩
      · cases p with
        | none =>
          simp [convert, und_run (hok.und hs), und_run (hok.und ht), und_run (hok.und hu8), e, nilSlice, Conv.bytesToString]
          rfl
        | some q =>
          have hload : (loadCells q 0).run P w = .ok #[] w := by simpa using run_loadCells_list (P := P) w q [] (fun j v hj => by simp at hj)
          simp [convert, und_run (hok.und hs), und_run (hok.und ht), und_run (hok.und hu8), e, Conv.bytesToString, hload]
          rfl
      · rw [e] at hx
        obtain ⟨us, h1, h2⟩ := rowVals_of hx
        have hns : us = (xs.map fun r => (r.getD 0 default).toInt).map (Value.int .u8) := by
          apply List.ext_getElem?
          intro i
          by_cases hi : i < xs.length
          · obtain ⟨u, h3, h4⟩ := h1.2 i 0 _ hi rfl
            simp only [List.length_singleton, Nat.mul_one, Nat.add_zero] at h3
            rw [h3]
            cases h4
            simp [List.getElem?_eq_getElem hi, List.getD_eq_getElem?_getD]
          · have hl : us.length = xs.length := by have := h1.1; simpa using this
            rw [List.getElem?_eq_none (by omega), List.getElem?_eq_none (by simp; omega)]
        have hload : (loadCells (pl b q) xs.length).run P w = .ok ((xs.map fun r => (r.getD 0 default).toInt).map (Value.int .u8)).toArray w := by
          have := run_loadCells_list (P := P) w (pl b q) us (fun j v hj => by rw [pl_add]; exact (h2 j v hj).2)
          have hl : us.length = xs.length := by have := h1.1; simpa using this
          rw [hl] at this
          rw [this, hns]
        have := run_bytesToString (P := P) w (pl b q) xs.length cap _ hload
        rw [push_all] at this
        simp [convert, und_run (hok.und hs), und_run (hok.und ht), und_run (hok.und hu8), e, this, rowBytes]
    split at hr1
    · rename_i hu8
      have e := val_inv hu
      exact op_plain h hd (sem_run he (by simp [convert, und_run (hok.und hs), und_run (hok.und ht), und_run (hok.und hu8), e, Conv.bytesToString])) (fun _ => .val _ _) hr1 hn
    · rename_i hu8
      split at hr1
      · rename_i hc
        rw [sameCTs_eq _ _ hc] at hu
        exact op_plain h hd (sem_run he (slice _ hu8 (arr_d hu))) (fun _ => .val _ _) hr1 hn
      · cases hr1
    · rename_i hu8
      split at hr1
      · rename_i hc
        rw [sameCTs_eq _ _ hc] at hu
        exact op_plain h hd (sem_run he (slice _ hu8 (own_d hu))) (fun _ => .val _ _) hr1 hn
      · cases hr1
    · cases hr1
  · cases hr1

/-! ### Literals -/
theorem VRel.slot0 {s : Slot} {v : V} {c : Value} (h : VRel g w s v c) (hf : v.cellP) : VRel g w .none v.view c := h.viewed (by rintro _ rfl; exact hf)
def Alike (g : Gh) (w : World) (cs : List V) (cells : Array Value) : Prop :=
  cs.length = cells.size ∧ ∀ (i : Nat) (v : V) (c : Value), cs[i]? = some v → cells[i]? = some c → v.cellP ∧ VRel g w .none v c
def updA (cells : Array Value) (q : Nat) : List Value → Array Value
  | [] => cells
  | c :: r => updA (cells.setIfInBounds q c) (q + 1) r
theorem foldl_upd (q : Nat) : ∀ (l : List Value) (k : Nat) (cells : Array Value), (l.zipIdx k).foldl (fun cs (p : Value × Nat) => cs.setIfInBounds (q + p.2) p.1) cells = updA cells (q + k) l
  | [], _, _ => rfl
  | c :: l, k, cells => by
    simp only [List.zipIdx_cons, List.foldl_cons, updA]
    rw [foldl_upd q l (k + 1)]
    rfl
theorem upd_eq (q : Nat) (cs : Array Value) (cells : Array Value) : cs.zipIdx.foldl (fun acc (p : Value × Nat) => acc.setIfInBounds (q + p.2) p.1) cells = updA cells q cs.toList := by
  rw [← Array.foldl_toList, Array.toList_zipIdx]
  have := foldl_upd q cs.toList 0 cells
  simpa using this
theorem Alike.set {cs : List V} {cells : Array Value} (h : Alike g w cs cells) {q : Nat} {v : V} {c : Value} (hv : v.cellP) (hr : VRel g w .none v.view c) : Alike g w (cs.set q v.view) (cells.setIfInBounds q c) := by
  refine ⟨by simpa using h.1, fun i u c' hu hc => ?_⟩
  by_cases e : q = i
  · subst e
    rw [List.getElem?_set] at hu
    simp only [if_true] at hu
    split at hu
    · cases hu
      rw [Array.getElem?_setIfInBounds_self] at hc
      split at hc
      · cases hc
        exact ⟨by cases v <;> first | trivial | exact hv, hr⟩
      · cases hc
    · cases hu
  · rw [List.getElem?_set] at hu
    simp only [e, if_false] at hu
    rw [Array.getElem?_setIfInBounds_ne e] at hc
    exact h.2 i u c' hu hc
theorem Alike.fill {us : List V} : ∀ {cs : List V} {cells : Array Value} {q : Nat} {cl : List Value}, Alike g w cs cells → us.length = cl.length → (∀ (i : Nat) (v : V) (c : Value), us[i]? = some v → cl[i]? = some c → v.cellP ∧ VRel g w .none v c) → Alike g w (fillV cs q us) (updA cells q cl) := by
  induction us with
  | nil => intro cs cells q cl h hl _; cases cl with | nil => exact h | cons => cases hl
  | cons v us ih =>
    intro cs cells q cl h hl hv
    cases cl with
    | nil => cases hl
    | cons c cl =>
      obtain ⟨h1, h2⟩ := hv 0 v c rfl rfl
      exact ih (h.set h1 (h2.slot0 h1)) (by simpa using hl) (fun i u c' hu hc => hv (i + 1) u c' (by simpa using hu) (by simpa using hc))
theorem partsV_run (h : Rep g0 w0 g w σ a N) {place : Nat → Option (Nat × Nat)} {f : List V → Step} {r : Bool × List W} : ∀ (ps : List (Nat × Operand)) (cs : List V) (cells : Array Value), (partsV place ps cs f).run σ = some r → Alike g w cs cells →
    ∃ cs' cells', (f cs').run σ = some r ∧ Instr.fill place cells (ps.map fun p => (p.1, a.eval p.2)) = some cells' ∧ Alike g w cs' cells'
  | [], cs, cells, hr, hal => ⟨cs, cells, hr, rfl, hal⟩
  | (i, x) :: ps, cs, cells, hr, hal => by
    simp only [partsV] at hr
    obtain ⟨v, hr1, hv, -, -⟩ := opd_sound h hr
    clear hr
    have step : ∀ (q n : Nat) (cs1 : List V) (cells1 : Array Value), place i = some (q, n) → (a.eval x).cells.size = n → q + n ≤ cells.size → updA cells q (a.eval x).cells.toList = cells1 → Alike g w cs1 cells1 → (partsV place ps cs1 f).run σ = some r →
        ∃ cs' cells', (f cs').run σ = some r ∧ Instr.fill place cells (((i, x) :: ps).map fun p => (p.1, a.eval p.2)) = some cells' ∧ Alike g w cs' cells' := by
      intro q n cs1 cells1 hp hn hq hu hal1 hr
      obtain ⟨cs', cells', h1, h2, h3⟩ := partsV_run h ps cs1 cells1 hr hal1
      refine ⟨cs', cells', h1, ?_, h3⟩
      simp only [List.map_cons, Instr.fill, hp]
      rw [if_neg (by simp; omega), upd_eq, hu]
      exact h2
    have single : ∀ (q n : Nat), place i = some (q, n) → (if n = 1 ∧ cellOkP v ∧ q + n ≤ cs.length then partsV place ps (cs.set q v.view) f else .fail).run σ = some r → ∃ cs' cells', (f cs').run σ = some r ∧ Instr.fill place cells (((i, x) :: ps).map fun p => (p.1, a.eval p.2)) = some cells' ∧ Alike g w cs' cells' := by
      intro q n hp hr
      split at hr
      · rename_i hc
        obtain ⟨rfl, hck, hle⟩ := hc
        obtain ⟨hf, h1c⟩ := cellP_oneC hv hck
        have hcc := (oneC_cells h1c).1
        have hs := hal.1
        exact step q 1 _ _ hp (by rw [hcc]; rfl) (by omega) rfl (by rw [hcc]; exact hal.set hf (hv.slot0 hf)) hr
      · cases hr
    cases hp : place i with
    | none => rw [hp] at hr1; cases hr1
    | some z =>
      obtain ⟨q, n⟩ := z
      rw [hp] at hr1
      cases v with
      | agg vs =>
        simp only at hr1
        split at hr1
        · rename_i hc
          obtain ⟨hl, hle⟩ := hc
          generalize hcx : a.eval x = c at hv step
          cases hv with
          | agg _ _ cs2 hl2 hf2 hcs2 =>
            have hs := hal.1
            exact step q n _ _ hp (by show cs2.size = n; omega) (by omega) rfl (hal.fill (by show vs.length = cs2.toList.length; simp; omega) (fun i v c hv hc => ⟨hf2 i v hv, hcs2 i v c hv (by have : cs2.toList[i]? = some c := hc; simpa using this)⟩)) hr1
        · cases hr1
      | _ => exact single q n hp hr1
end
end Go.Proofs.YtacfehneeanlgaaDoor.Ev
namespace Go.Proofs.YtacfehneeanlgaaDoor.Ev
open Go
set_option linter.unusedVariables false
set_option linter.unusedSimpArgs false
section
variable {P : Program} {I : Info} {g0 g : Gh} {w0 w : World} {σ : St} {a : Act} {N : Nat} {o : Oper} {ops : List Oper} {next : Act → World → Prop} {Q : Exit → Act → World → Prop} {ws : List W} {b : Bool}

theorem places_mapM (hok : InfoOk P I) : ∀ (fs : List Field) (pl : List (Nat × Nat)), placesV I fs = some pl → fs.mapM (fun f => (P.info? f.type).map fun i => (f.offset, i.size)) = some pl
  | [], pl, h => by simp [placesV] at h; subst h; simp
  | f :: fs, pl, h => by
    simp only [placesV] at h
    split at h
    · rename_i n l hn hl
      cases h
      obtain ⟨i, hi, hin⟩ := hok.size hn
      simp [List.mapM_cons, hi, hin, places_mapM hok fs l hl]
    · cases h
theorem alike_zero (z : Value) : Alike g w (z.cells.toList.map V.val) z.cells := by
  refine ⟨by simp, fun i v c hv hc => ?_⟩
  simp only [List.getElem?_map, Array.getElem?_toList, hc, Option.map_some, Option.some.injEq] at hv
  subst hv
  exact ⟨trivial, .val _ _⟩
theorem op_build {t : TypeId} {ps : Array (Nat × Operand)} (ho : o.op = .build t ps) (hok : InfoOk P I) (h : Rep g0 w0 g w σ a N) (hd : ∀ t, o.dst = some t → t < N) (hr : (opM I ops o).run σ = some (true, ws)) (hn : ∀ g' a' w', Rep g0 w0 g' w' (σ.puts ws) a' N → next a' w') : o.wp P a w next Q := by
  unfold opM at hr
  rw [ho] at hr
  simp only at hr
  have fin : ∀ (pf : Nat → Option (Nat × Nat)) (zs : List V), I.zero t = some zs → (partsV pf ps.toList zs fun cs => .ret (true, dstW o.dst (.agg cs))).run σ = some (true, ws) → (∀ (i : TypeInfo) (z : Value) (cells' : Array Value), P.info? t = some i → i.zero = some z → Instr.fill pf z.cells ((ps.map fun p => (p.1, a.eval p.2)).toList) = some cells' → P.built t ((ps.map fun p => (p.1, a.eval p.2)).toList) = some cells') → o.wp P a w next Q := by
    intro pf zs hz hr hbuilt
    obtain ⟨i, z, hi, hiz, hzs⟩ := hok.zero hz
    obtain ⟨cs', cells', h1, h2, h3⟩ := partsV_run h ps.toList zs z.cells hr (by rw [hzs]; exact alike_zero z)
    have hb := hbuilt i z cells' hi hiz (by simpa using h2)
    refine op_plain (v := .agg cs') h hd (sem_run (s := Instr.build t (ps.map fun p => (p.1, a.eval p.2))) (by simp only [execOp, ho]; rfl) (run_build w t _ cells' hb)) (fun s => .agg _ _ _ h3.1 (fun i v hv => ?_) (fun i v c hv hc => (h3.2 i v c hv hc).2)) h1 hn
    obtain ⟨hlt, _⟩ := List.getElem?_eq_some_iff.1 hv
    have := h3.1
    exact (h3.2 i v _ hv (Array.getElem?_eq_getElem (by omega))).1
  split at hr
  case h_3 => cases hr
  · rename_i fs zs ht hz
    cases hpl : placesV I fs.toList with
    | none => rw [hpl] at hr; cases hr
    | some pl =>
    rw [hpl] at hr
    refine fin _ zs hz hr fun i z cells' hi hiz h2 => ?_
    unfold Program.built
    rw [hi, hok.und ht]
    simp only [hiz, places_mapM hok _ _ hpl]
    simpa using h2
  · rename_i n e zs ht hz
    cases hsz : I.size e with
    | none => rw [hsz] at hr; cases hr
    | some sz =>
    rw [hsz] at hr
    refine fin _ zs hz hr fun i z cells' hi hiz h2 => ?_
    obtain ⟨j, hj, hjs⟩ := hok.size hsz
    unfold Program.built
    rw [hi, hok.und ht]
    simp only [hiz, hj, hjs]
    simpa [hjs] using h2

theorem tellRows_get {cts : List CT} {sz : Nat} : ∀ {n : Nat} {cs : List V} {rows : List (List D)}, tellRows cts (chunk sz n cs) = some rows → rows.length = n ∧ ∀ i, i < n → ∃ r, rows[i]? = some r ∧ tellAll cts ((cs.drop (i * sz)).take sz) = some r
  | 0, cs, rows, h => by simp [chunk, tellRows] at h; subst h; exact ⟨rfl, fun i hi => absurd hi (by omega)⟩
  | n + 1, cs, rows, h => by
    simp only [chunk, tellRows] at h
    split at h
    · rename_i e es h0 hs
      cases h
      obtain ⟨h1, h2⟩ := tellRows_get hs
      refine ⟨by simp [h1], fun i hi => ?_⟩
      cases i with
      | zero => exact ⟨e, rfl, by simpa using h0⟩
      | succ i =>
        obtain ⟨r, h3, h4⟩ := h2 i (by omega)
        refine ⟨r, by simpa using h3, ?_⟩
        rw [← h4, List.drop_drop, Nat.add_mul, Nat.one_mul, Nat.add_comm]
    · cases h
theorem buildSlice_run {t e : TypeId} {i : TypeInfo} {z : Value} {n : Nat} {parts : Array (Nat × Value)} {cells : Array Value} (ht : P.underlying t = some (.slice e)) (hi : P.info? e = some i) (hiz : i.zero = some z) (hle : n * i.size ≤ 4096)
    (hf : Instr.fill (fun j => some (j * i.size, i.size)) ((Array.range (n * i.size)).map (fun x => z.cells[x % z.cells.size]!)) parts.toList = some cells) : (Instr.buildSlice t n parts).run P w = .ok (.slice (some (pl w.heap.size 0)) n n) (w.alloc (.cells cells e)) := by
  have hbig : ¬ (n * i.size > 2 ^ 24) := by omega
  have hzr : (zeroValue e).run P w = .ok z w := by simp [zeroValue, info_run hi, hiz]
  unfold Instr.buildSlice
  simp only [Sem.run_bind, und_run ht, Result.andThen_ok, size_run hi, if_neg hbig, Sem.run_pure]
  have hnew : (newRow e cells).run P w = .ok (pl w.heap.size 0) (w.alloc (.cells cells e)) := rfl
  by_cases h0 : n * i.size = 0
  · rw [if_pos h0]
    have hcz : ∀ f g : Nat → Value, (Array.range (n * i.size)).map f = (Array.range (n * i.size)).map g := fun f g => by rw [h0]; simp
    rw [hcz _ (fun x => (#[] : Array Value)[x % (#[] : Array Value).size]!)] at hf
    simp only [Sem.run_pure, Result.andThen_ok, hf, hnew, Sem.run_bind]
  · rw [if_neg h0]
    simp only [Sem.run_bind, hzr, Sem.run_pure, Result.andThen_ok, hf, hnew]
theorem chunk_length {sz : Nat} : ∀ (n : Nat) (cs : List V), (chunk sz n cs).length = n
  | 0, _ => rfl
  | n + 1, cs => by simp [chunk, chunk_length n]
theorem chunk_get {sz : Nat} : ∀ (n : Nat) (cs : List V) (i : Nat), i < n → (chunk sz n cs)[i]? = some ((cs.drop (i * sz)).take sz)
  | 0, _, i, h => absurd h (by omega)
  | n + 1, cs, 0, _ => by simp [chunk]
  | n + 1, cs, i + 1, h => by
    simp only [chunk, List.getElem?_cons_succ]
    rw [chunk_get n _ i (by omega), List.drop_drop, Nat.add_mul, Nat.one_mul, Nat.add_comm]
theorem zeros_alike {zs : List V} {z : Value} {sz n : Nat} (hzs : zs = z.cells.toList.map V.val) (hzc : z.cells.size = sz) (hpos : 0 < sz) : Alike g w (zerosV zs sz n) ((Array.range (n * sz)).map (fun x => z.cells[x % z.cells.size]!)) := by
  refine ⟨by simp [zerosV], fun j v c hv hc => ?_⟩
  have hj : j < n * sz := by have := (List.getElem?_eq_some_iff.1 hv).1; simpa [zerosV] using this
  have hm : j % sz < sz := Nat.mod_lt _ hpos
  simp only [zerosV, List.getElem?_map, List.getElem?_range hj, Option.map_some, Option.some.injEq] at hv
  simp [hj, hzc] at hc
  subst hv
  subst hc
  rw [hzs, List.getD_eq_getElem?_getD, List.getElem?_map, Array.getElem?_toList, Array.getElem?_eq_getElem (by omega)]
  rw [getElem!_pos z.cells (j % sz) (by omega)]
  exact ⟨trivial, .val _ _⟩
set_option maxHeartbeats 2000000 in
theorem op_buildSlice {t : TypeId} {n : Nat} {ps : Array (Nat × Operand)} (ho : o.op = .buildSlice t n ps) (hok : InfoOk P I) (h : Rep g0 w0 g w σ a N) (hd : ∀ t, o.dst = some t → t < N) (hdn : o.dst ≠ none) (hr : (opM I ops o).run σ = some (true, ws)) (hn : ∀ g' a' w', Rep g0 w0 g' w' (σ.puts ws) a' N → next a' w') : o.wp P a w next Q := by
  unfold opM at hr
  rw [ho] at hr
  simp only at hr
  split at hr
  case h_2 => cases hr
  rename_i e ht
  obtain ⟨d, hdd⟩ := Option.ne_none_iff_exists'.1 hdn
  have hfl : ∀ (pf : Nat → Option (Nat × Nat)) (l : List (Nat × Value)) (cs cs2 : Array Value), Instr.fill pf cs l = some cs2 → cs2.size = cs.size := by
    intro pf l
    induction l with
    | nil => intro cs cs2 hf; simp [Instr.fill] at hf; subst hf; rfl
    | cons p l ih =>
      intro cs cs2 hf
      obtain ⟨pi, pv⟩ := p
      simp only [Instr.fill] at hf
      split at hf
      · cases hf
      · rename_i off size _
        split at hf
        · cases hf
        · rw [ih _ _ hf, upd_eq]
          have : ∀ (l : List Value) (q : Nat) (c : Array Value), (updA c q l).size = c.size := by
            intro l
            induction l with
            | nil => intro q c; rfl
            | cons x l ih2 => intro q c; simp only [updA]; rw [ih2]; simp
          exact this _ _ _
  cases hsz : I.size e with
  | none => rw [hsz] at hr; cases hr
  | some sz =>
  cases hz : I.zero e with
  | none => rw [hsz, hz] at hr; cases hr
  | some zs =>
  rw [hsz, hz] at hr
  obtain ⟨i, z, hi, hiz, hzs⟩ := hok.zero hz
  obtain ⟨i2, hi2, hisz⟩ := hok.size hsz
  have : i2 = i := Option.some.inj (hi2.symm.trans hi)
  subst this
  cases hcts : I.cts e with
  | none =>
    rw [hcts] at hr
    simp only at hr
    split at hr
    case isFalse => cases hr
    rename_i hc
    obtain ⟨hle, hpos, hzl⟩ := hc
    have hzc : z.cells.size = sz := by rw [← hzl, hzs]; simp
    obtain ⟨cs', cells', h1, h2, h3⟩ := partsV_run h ps.toList _ _ hr (zeros_alike hzs hzc hpos)
    split at h1
    case isFalse => cases h1
    rename_i hlen
    simp only [M.run, Option.some.injEq, Prod.mk.injEq, true_and, hdd] at h1
    subst h1
    have hcsz : cells'.size = n * sz := by rw [hfl _ _ _ _ h2]; simp
    have hrun : (Instr.buildSlice t n (ps.map fun p => (p.1, a.eval p.2))).run P w = .ok (.slice (some (pl w.heap.size 0)) n n) (w.alloc (.cells cells' e)) := by
      refine buildSlice_run (hok.und ht) hi hiz (by rw [hisz]; exact hle) ?_
      rw [hisz]
      simpa using h2
    refine up_value (sem_run (s := Instr.buildSlice t n (ps.map fun p => (p.1, a.eval p.2))) (by simp only [execOp, ho]; rfl) hrun) ?_
    rw [hdd]
    have h4 := h.newBlock (.cells cells' e) .free (by rintro r l e'; cases e')
    refine hn _ _ _ (h4.putTmp (hd d hdd) ?_)
    have hrl : (chunk sz n cs').length = n := chunk_length n cs'
    have hget : ∀ (i : Nat) (r : List V), (chunk sz n cs')[i]? = some r → i < n ∧ r = (cs'.drop (i * sz)).take sz := fun i r hr => by
      have hi : i < n := by have := (List.getElem?_eq_some_iff.1 hr).1; omega
      rw [chunk_get n cs' i hi] at hr
      exact ⟨hi, (Option.some.inj hr).symm⟩
    have hmem : ∀ (i j : Nat) (r : List V) (v : V), (chunk sz n cs')[i]? = some r → r[j]? = some v → j < sz ∧ cs'[i * sz + j]? = some v := fun i j r v hr hv => by
      obtain ⟨hi, rfl⟩ := hget i r hr
      rw [List.getElem?_take] at hv
      split at hv
      · rename_i hj; rw [List.getElem?_drop] at hv; exact ⟨hj, hv⟩
      · cases hv
    have hst := stable_push h (.cells cells' e) .free
    have hcell : ∀ (i j : Nat) (r : List V) (v : V), (chunk sz n cs')[i]? = some r → r[j]? = some v → i * sz + j < cells'.size := fun i j r v hr hv => by
      have := (List.getElem?_eq_some_iff.1 (hmem i j r v hr hv).2).1
      omega
    have hv := VRel.sarr (g := g.set w.heap.size .free) (w := w.alloc (.cells cells' e)) (.tmp d) sz (chunk sz n cs') w.heap.size (fun i j => (cells'[i * sz + j]?).getD undef) (fun i r hr => by
      obtain ⟨hi, rfl⟩ := hget i r hr
      have : (i + 1) * sz ≤ n * sz := Nat.mul_le_mul_right _ (by omega)
      rw [Nat.add_mul] at this
      simp; omega) (by rw [hrl]; simp only [maxLen]; have := Nat.le_mul_of_pos_right n hpos; omega) (fun i j r v hr hv => by
        have hlt := hcell i j r v hr hv
        exact (h3.2 _ v _ (hmem i j r v hr hv).2 (Array.getElem?_eq_getElem hlt)).1) (fun i j r v hr hv => by
        have hlt := hcell i j r v hr hv
        refine ⟨by simp [Gh.stable, Gh.set, Perm.stable], ?_⟩
        simp only [World.cell?, heap_push_new]
        simp [Array.getElem?_eq_getElem hlt]) (fun i j r v hr hv => by
        have hlt := hcell i j r v hr hv
        have := (h3.2 _ v _ (hmem i j r v hr hv).2 (Array.getElem?_eq_getElem hlt)).2
        simp only [Array.getElem?_eq_getElem hlt, Option.getD_some]
        exact this.push h _ _)
    rw [hrl] at hv
    exact hv
  | some cts =>
  rw [hcts] at hr
  simp only at hr
  split at hr
  case isFalse => cases hr
  rename_i hc
  obtain ⟨hle, hpos, hzl, hcl⟩ := hc
  have hzc : z.cells.size = sz := by rw [← hzl, hzs]; simp
  have hal := zeros_alike (g := g) (w := w) (n := n) hzs hzc hpos
  obtain ⟨cs', cells', h1, h2, h3⟩ := partsV_run h ps.toList _ _ hr hal
  split at h1
  case h_2 => cases h1
  rename_i rows hrows
  obtain ⟨hrl, hrow⟩ := tellRows_get hrows
  simp only [M.run, Option.some.injEq, Prod.mk.injEq, true_and, hdd] at h1
  subst h1
  have hcsz : cells'.size = n * sz := by rw [hfl _ _ _ _ h2]; simp
  have hvals : RowVals g.stable w cts rows cells'.toList := by
    refine ⟨by rw [Array.length_toList, hcsz, hrl, hcl], fun i j c hi hj => ?_⟩
    rw [hrl] at hi
    obtain ⟨r, hr1, hr2⟩ := hrow i hi
    obtain ⟨v, d', hv, hd', htell⟩ := tellAll_get hr2 j c hj
    have hjl : j < sz := by have := (List.getElem?_eq_some_iff.1 hj).1; omega
    rw [List.getElem?_take, if_pos hjl, List.getElem?_drop] at hv
    have hlt : i * sz + j < cells'.size := by
      have := (List.getElem?_eq_some_iff.1 hv).1
      have := h3.1
      omega
    refine ⟨cells'[i * sz + j], by rw [hcl, Array.getElem?_toList]; exact Array.getElem?_eq_getElem hlt, ?_⟩
    have := tell_rel htell (h3.2 _ v _ hv (Array.getElem?_eq_getElem hlt)).2
    have e1 : rows.getD i [] = r := by rw [List.getD_eq_getElem?_getD, hr1]; rfl
    have e2 : r.getD j default = d' := by rw [List.getD_eq_getElem?_getD, hd']; rfl
    rw [e1, e2]
    exact this
  obtain ⟨g', h4⟩ := h.grown (d := d) (hd d hdd) (e := e) (rest := []) (cap := n) hvals (by rw [hrl]; exact Nat.le_refl _) (by simp only [maxLen]; have := Nat.le_mul_of_pos_right n hpos; omega) (by rw [List.length_nil, Nat.add_zero, Array.length_toList, hcsz, hcl])
  have hrun : (Instr.buildSlice t n (ps.map fun p => (p.1, a.eval p.2))).run P w = .ok (.slice (some (pl w.heap.size 0)) n n) (w.alloc (.cells cells' e)) := by
    refine buildSlice_run (hok.und ht) hi hiz (by rw [hisz]; exact hle) ?_
    rw [hisz]
    simpa using h2
  refine up_value (sem_run (s := Instr.buildSlice t n (ps.map fun p => (p.1, a.eval p.2))) (by simp only [execOp, ho]; rfl) hrun) ?_
  rw [hdd]
  refine hn g' _ _ ?_
  rw [hrl, List.append_nil] at h4
  exact h4
end
end Go.Proofs.YtacfehneeanlgaaDoor.Ev
