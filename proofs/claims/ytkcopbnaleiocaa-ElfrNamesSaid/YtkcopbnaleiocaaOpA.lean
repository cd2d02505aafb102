/- What the evaluator's operations write stands for what the model's operations leave: append, as a whole. -/
import Derived.Test.YtkcopbnaleiocaaOp9
import Derived.Lib.AppendZerosOnto
namespace Go.Proofs.Ytkcopbnaleiocaa.Ev
open Go
set_option linter.unusedVariables false
set_option linter.unusedSimpArgs false
section
variable {P : Program} {I : Info} {g0 g : Gh} {w0 w : World} {σ : St} {a : Act} {N : Nat} {o : Oper} {ops : List Oper} {next : Act → World → Prop} {Q : Exit → Act → World → Prop} {ws : List W} {b : Bool}

theorem DRel.oneCell {st : Nat → Nat → Prop} {ct : CT} {d : D} {c : Value} (h : DRel st w ct d c) : c.oneCell' = true := by
  cases h <;> rfl
theorem RowVals.oneCell {st : Nat → Nat → Prop} {cts : List CT} {xs : List (List D)} {us : List Value} (h : RowVals st w cts xs us) : ∀ u ∈ us, u.oneCell' = true := by
  intro u hu
  obtain ⟨p, hp, rfl⟩ := List.getElem_of_mem hu
  rw [h.1] at hp
  have h0 : 0 < cts.length := by
    rcases Nat.eq_zero_or_pos cts.length with h0 | h0
    · rw [h0] at hp; omega
    · exact h0
  obtain ⟨u, h1, h2⟩ := h.2 (p / cts.length) (p % cts.length) _ (Nat.div_lt_of_lt_mul (by rw [Nat.mul_comm]; exact hp)) (List.getElem?_eq_getElem (Nat.mod_lt _ h0))
  rw [Nat.mul_comm, Nat.div_add_mod] at h1
  rw [(List.getElem?_eq_some_iff.1 h1).2]
  exact h2.oneCell
theorem rowVals_nil {st : Nat → Nat → Prop} (cts : List CT) : RowVals st w cts [] [] := ⟨by simp, fun i j c hi => absurd hi (by simp)⟩
theorem rowVals_bytes {st : Nat → Nat → Prop} (s : ByteArray) : RowVals st w [.int .u8] (bytesRow s) (s.data.toList.map fun b => Value.int .u8 (b.toNat : Int)) := by
  refine ⟨by simp [bytesRow], fun i j c hi hj => ?_⟩
  have hlen : (bytesRow s).length = s.data.toList.length := by simp [bytesRow]
  cases j with
  | succ j => simp at hj
  | zero =>
    simp at hj
    subst hj
    have hi' : i < s.data.toList.length := by omega
    refine ⟨.int .u8 (s.data.toList[i].toNat : Int), by simp [List.getElem?_eq_getElem hi'], ?_⟩
    have : ((bytesRow s).getD i []).getD 0 default = D.int (s.data.toList[i].toNat : Int) := by
      have e1 : (bytesRow s)[i]? = some [D.int (s.data.toList[i].toNat : Int)] := by
        unfold bytesRow
        rw [List.getElem?_map, List.getElem?_eq_getElem hi']
        rfl
      rw [List.getD_eq_getElem?_getD (l := bytesRow s), e1]
      rfl
    rw [this]
    exact DRel.int .u8 (.int _)
/-- What is appended. -/
theorem source {s : Slot} {cts : List CT} {u : V} {c : Value} {ys : List (List D)} (hv : VRel g w s u c) (hy : rowsOf cts u = some ys) :
    ∃ news, RowVals g.stable w cts ys news ∧ (∀ w' : World, (Builtin.lenOf c).run P w' = .ok ys.length w') ∧ (∀ w' : World, w'.heap = w.heap → (Builtin.firstCells cts.length ys.length c).run P w' = .ok news.toArray w') := by
  have slice : ∀ xs, DRel g.stable w (.arr cts) (.arr xs) c → ∃ news, RowVals g.stable w cts xs news ∧ (∀ w' : World, (Builtin.lenOf c).run P w' = .ok xs.length w') ∧ (∀ w' : World, w'.heap = w.heap → (Builtin.firstCells cts.length xs.length c).run P w' = .ok news.toArray w') := by
    intro xs hx
    rcases row_inv (s := s) hx with ⟨rfl, p, rfl⟩ | ⟨b, q, cap, rfl, _, _⟩
    · exact ⟨[], rowVals_nil _, fun w' => by simp [nilSlice, Builtin.lenOf], fun w' _ => by
        cases p with
        | none => simp [nilSlice, Builtin.firstCells]
        | some q => simpa [Builtin.firstCells] using run_loadCells_list (P := P) w' q [] (fun j v hj => by simp at hj)⟩
    · obtain ⟨us, h1, h2⟩ := rowVals_of hx
      refine ⟨us, h1, fun w' => by simp [Builtin.lenOf], fun w' hw => ?_⟩
      exact run_firstCells_some w' cts.length xs.length (pl b q) xs.length cap us h1.1 (fun j v hj => by rw [pl_add]; have := (h2 j v hj).2; simp only [World.cell?, hw] at this ⊢; exact this)
  cases u with
  | arr ct xs =>
    simp only [rowsOf] at hy
    split at hy
    · rename_i e
      cases hy
      rw [sameCTs_eq _ _ e] at hv
      exact slice _ (arr_d hv)
    · cases hy
  | own ct xs =>
    simp only [rowsOf] at hy
    split at hy
    · rename_i e
      cases hy
      rw [sameCTs_eq _ _ e] at hv
      exact slice _ (own_d hv)
    · cases hy
  | val v =>
    have e := val_inv hv
    subst e
    simp only [rowsOf] at hy
    split at hy
    · simp_all
    · simp_all
    · rename_i e
      cases e
      cases hy
      exact ⟨[], rowVals_nil _, fun w' => by simp [Builtin.lenOf], fun w' _ => by simp [Builtin.firstCells]⟩
    · rename_i st' e
      cases e
      split at hy
      · rename_i e
        cases hy
        rw [sameCTs_eq _ _ e]
        refine ⟨_, rowVals_bytes st', fun w' => by simp [Builtin.lenOf, bytesRow], fun w' _ => ?_⟩
        have : (bytesRow st').length = st'.size := by simp [bytesRow]
        rw [this]
        simp [Builtin.firstCells]
        apply Array.ext'
        simp
      · cases hy
    · cases hy
  | _ => cases hy

theorem tellAll_get : ∀ {cts : List CT} {vs : List V} {ds : List D}, tellAll cts vs = some ds → ∀ (j : Nat) (c : CT), cts[j]? = some c → ∃ v d, vs[j]? = some v ∧ ds[j]? = some d ∧ c.tell v = some d
  | [], [], ds, h, j, c, hc => by simp at hc
  | c0 :: cts, v0 :: vs, ds, h, j, c, hc => by
    simp only [tellAll] at h
    split at h
    · rename_i d0 ds0 h0 hs
      cases h
      cases j with
      | zero => simp at hc; subst hc; exact ⟨v0, d0, rfl, rfl, h0⟩
      | succ j =>
        obtain ⟨v, d, h1, h2, h3⟩ := tellAll_get hs j c (by simpa using hc)
        exact ⟨v, d, by simpa using h1, by simpa using h2, h3⟩
    · cases h
  | [], _ :: _, _, h, _, _, _ => by simp [tellAll] at h
  | _ :: _, [], _, h, _, _, _ => by simp [tellAll] at h
/-- Zero rows. -/
theorem zero_rows {cts : List CT} {z : Value} {row : List D} {st : Nat → Nat → Prop} (hrow : tellAll cts (z.cells.toList.map V.val) = some row) (hzc : z.cells.size = cts.length) (m : Nat) : RowVals g.stable w cts (List.replicate m row) (Builtin.zeroCells z.cells m).toList := by
  have hsz : (Builtin.zeroCells z.cells m).toList.length = m * cts.length := by simp [size_zeroCells, hzc]
  refine ⟨by rw [hsz]; simp, fun i j ct hi hj => ?_⟩
  have him : i < m := by simpa using hi
  obtain ⟨v, d', hv, hd', htell⟩ := tellAll_get hrow j ct hj
  have hjl : j < cts.length := (List.getElem?_eq_some_iff.1 hj).1
  simp only [List.getElem?_map, Option.map_eq_some_iff] at hv
  obtain ⟨u, hu, rfl⟩ := hv
  have hlt : i * cts.length + j < m * cts.length := by
    have : (i + 1) * cts.length ≤ m * cts.length := Nat.mul_le_mul_right _ (by omega)
    rw [Nat.add_mul] at this
    omega
  have hmod : (i * cts.length + j) % cts.length = j := by rw [Nat.mul_comm, Nat.mul_add_mod, Nat.mod_eq_of_lt hjl]
  refine ⟨u, ?_, ?_⟩
  · have hlt' : j < z.cells.size := by omega
    have : (Builtin.zeroCells z.cells m).toList[i * cts.length + j]? = some (z.cells[(i * cts.length + j) % z.cells.size]!) := by
      unfold Builtin.zeroCells
      rw [Array.toList_map, Array.toList_range, List.getElem?_map, hzc, List.getElem?_range hlt]
      rfl
    rw [this, hzc, hmod, getElem!_pos z.cells _ hlt']
    have hu' : z.cells[j]? = some u := by simpa using hu
    rw [Array.getElem?_eq_getElem hlt'] at hu'
    exact hu'
  · have e3 : (List.replicate m row).getD i [] = row := by simp [List.getD_eq_getElem?_getD, him]
    have e4 : row.getD j default = d' := by rw [List.getD_eq_getElem?_getD, hd']; rfl
    rw [e3, e4]
    exact tell_rel (s := .none) htell (.val _ _)
/-- How the model appends what there is to append. -/
structure AppSrc (P : Program) (t t2 : TypeId) (i : TypeInfo) (z x : Value) (e : TypeId) (w : World) (m : Nat) (news : List Value) : Prop where
  room : ∀ {ty : TypeId} {b q n cap : Nat} {w' : World}, n + m ≤ cap → (storeCells (pl b (q + n * i.size)) news).run P w = .ok () w' → (Builtin.append_ #[t, t2] ty #[.slice (some (pl b q)) n cap, x]).run P w = .ok (.slice (some (pl b q)) (n + m) cap) w'
  none : m = 0 → ∀ {ty : TypeId} (p : Option Addr), (Builtin.append_ #[t, t2] ty #[.slice p 0 0, x]).run P w = .ok (.slice p 0 0) w
  grow : ∀ {ty : TypeId} {base : Option Addr} {n cap : Nat} {olds : List Value}, n ≤ cap → (Builtin.firstCells i.size n (.slice base n cap)).run P w.drew = .ok olds.toArray w.drew → cap < n + m → ((n + m : Nat) : Int) ≤ 9223372036854775807 → m * i.bytes ≤ 281474976710656 → Builtin.nextslicecap (n + m) cap * i.bytes ≤ 281474976710656 →
    (Builtin.append_ #[t, t2] ty #[.slice base n cap, x]).run P w = .ok (.slice (some (pl w.heap.size 0)) (n + m) (grownCap w (n + m) cap e)) (w.drew.alloc (.cells (olds.toArray ++ news.toArray ++ Builtin.zeroCells z.cells (grownCap w (n + m) cap e - (n + m))) e))
theorem appSrc_rows {t t2 e : TypeId} {i : TypeInfo} {z x : Value} {d2 : TypeDesc} (ht : P.underlying t = some (.slice e)) (hi : P.info? e = some i) (hz : i.zero = some z) (h2 : P.underlying t2 = some d2) (hni : ∀ k, d2 ≠ .int k) {m : Nat} {news : List Value} (hm : news.length = 0 ∨ m ≠ 0) (hl : ∀ w : World, (Builtin.lenOf x).run P w = .ok m w)
    (hf : ∀ w' : World, w'.heap = w.heap → (Builtin.firstCells i.size m x).run P w' = .ok news.toArray w') : AppSrc P t t2 i z x e w m news where
  room := fun hr hst => append_room ht hi h2 hni hl (hf w rfl) hr hst
  none := fun h0 {_} p => by
    subst h0
    rcases hm with hm | hm
    · have : news = [] := List.eq_nil_of_length_eq_zero hm
      subst this
      exact append_none ht hi h2 hni hl (hf w rfl) p
    · exact absurd rfl hm
  grow := fun _ hfo hg h63 _ hfit => append_grow ht hi hz h2 hni hl hfo (hf w.drew rfl) hg h63 hfit
theorem appSrc_zeros {t t2 e : TypeId} {i : TypeInfo} {z : Value} {k kn : IntKind} (ht : P.underlying t = some (.slice e)) (hi : P.info? e = some i) (hz : i.zero = some z) (h2 : P.underlying t2 = some (.int kn)) (hs : 0 < i.size) {m : Nat} (hmb : m * i.bytes ≤ 281474976710656) (hm : m ≤ 70368744177664) :
    AppSrc P t t2 i z (.int k (m : Int)) e w m (Builtin.zeroCells z.cells m).toList where
  room := fun {ty b q n cap w'} hr hst => by
    have hw : IntKind.i64.wrap (m : Int) = m := by rw [IntKind.wrap_i64]; omega
    have h48i : ¬ (281474976710656 < (m : Int) * (i.bytes : Int)) := by rw [← Int.natCast_mul]; omega
    have hneg : ¬ ((m : Int) < 0) := by omega
    by_cases hm0 : m * i.size = 0
    · have hm00 : m = 0 := by
        rcases Nat.mul_eq_zero.1 hm0 with h | h
        · exact h
        · omega
      subst hm00
      have hz0 : (Builtin.zeroCells z.cells 0) = #[] := by apply Array.ext'; simp [Builtin.zeroCells]
      rw [hz0] at hst
      simp [storeCells, Sem.run] at hst
      subst hst
      have hw0 : IntKind.i64.wrap 0 = 0 := by simpa using hw
      simp at hr
      simp [Builtin.append_, und_run ht, und_run h2, size_run hi, typeInfo, hi, asInt, asIntOf, hw0, hr, storeCells]
    · have hmne : ¬ (m = 0 ∨ i.size = 0) := by intro hh; rcases hh with hh | hh <;> simp [hh] at hm0
      simp [Builtin.append_, und_run ht, und_run h2, size_run hi, typeInfo, zeroValue, hi, hz, asInt, asIntOf, hw, hneg, h48i, hr, hmne, pl_add]
      rw [if_neg hm0, hst]
      rfl
  none := fun h0 {ty} p => by
    subst h0
    have hw0 : IntKind.i64.wrap 0 = 0 := by rw [IntKind.wrap_i64]; rfl
    cases p <;> simp [Builtin.append_, und_run ht, und_run h2, size_run hi, typeInfo, hi, asInt, asIntOf, hw0, storeCells]
  grow := fun {ty base n cap olds} hnc hfo hg h63 hb hfit => by
    by_cases hm0 : m = 0
    · omega
    · have := Lib.run_append_grow_zeros w t t2 ty e i z k kn ht h2 hi hz base n cap olds hfo m (by omega) hs hg h63 hb hfit
      simpa using this

theorem getElem?_of_take {α : Type} {l : Array α} {p : Nat} {u : α} {xs ys : List α} (h : l = (xs ++ ys).toArray) (hp : xs[p]? = some u) : l[p]? = some u := by
  subst h
  simp only [List.getElem?_toArray]
  rw [List.getElem?_append_left (List.getElem?_eq_some_iff.1 hp).1]
  exact hp
/-- A slice in a new block of its own. -/
theorem Rep.grown (h : Rep g0 w0 g w σ a N) {d : Nat} (hd : d < N) {cts : List CT} {xs : List (List D)} {us rest : List Value} {cap : Nat} {e : TypeId} (hv : RowVals g.stable w cts xs us) (hcap : xs.length ≤ cap) (hm : cap ≤ maxLen) (hsz : us.length + rest.length = cap * cts.length) :
    ∃ g', Rep g0 w0 g' (w.alloc (.cells (us ++ rest).toArray e)) (σ.put (.tmp d (some (.own cts xs)))) (a.put (some d) (.slice (some (pl w.heap.size 0)) xs.length cap)) N := by
  have h1 := h.newBlock (.cells (us ++ rest).toArray e) (.arr (.tmp d) (xs.length * cts.length)) (by
    rintro r l e' hu
    cases e'
    have := Slot.under_root hu
    simp [Slot.root] at this)
  refine ⟨_, h1.putTmp hd (.own _ _ _ _ ?_ (.inr (.inr ⟨w.heap.size, cap, _, (e, (0, 0)), rfl, hcap, hm, by simp [Gh.set], heap_push_new w _, by simp; omega, unfz_none _⟩)))⟩
  refine (hv.mono (stable_push h _ _)).drel hcap hm (fun p u hp => ?_)
  obtain ⟨hlt, _⟩ := List.getElem?_eq_some_iff.1 hp
  rw [hv.1] at hlt
  refine ⟨by simp only [Gh.stable, Gh.set, if_true, Nat.zero_add]; exact hlt, ?_⟩
  simp only [World.cell?, Nat.zero_add, heap_push_new]
  simp [List.getElem?_append_left (List.getElem?_eq_some_iff.1 hp).1, hp]

theorem uni_of_rows {st : Nat → Nat → Prop} {cts : List CT} {xs : List (List D)} {us : List Value} {cur : Array Value} (hr : RowVals st w cts xs us) (hc : ∀ (p : Nat) (u : Value), us[p]? = some u → cur[p]? = some u) :
    ∀ (i j : Nat) (ct : CT), i < xs.length → cts[j]? = some ct → ∃ v, cur[i * cts.length + j]? = some v ∧ DRel st w ct ((xs.getD i []).getD j default) v := by
  intro i j ct hi hj
  obtain ⟨u, h1, h2⟩ := hr.2 i j ct hi hj
  exact ⟨u, hc _ _ h1, h2⟩
theorem rows_of_uni {st : Nat → Nat → Prop} {cts : List CT} {xs : List (List D)} {cur : Array Value} {cap : Nat} (hn : xs.length ≤ cap) (hs : cur.size = cap * cts.length)
    (h : ∀ (i j : Nat) (ct : CT), i < xs.length → cts[j]? = some ct → ∃ v, cur[i * cts.length + j]? = some v ∧ DRel st w ct ((xs.getD i []).getD j default) v) : ∃ us, RowVals st w cts xs us ∧ ∀ (p : Nat) (u : Value), us[p]? = some u → cur[p]? = some u := by
  have hle : xs.length * cts.length ≤ cur.size := by rw [hs]; exact Nat.mul_le_mul_right _ hn
  have hget : ∀ p, p < xs.length * cts.length → (cur.toList.take (xs.length * cts.length))[p]? = cur[p]? := fun p hp => by rw [List.getElem?_take, if_pos hp]; simp
  refine ⟨cur.toList.take (xs.length * cts.length), ⟨by simp; omega, fun i j ct hi hj => ?_⟩, fun p u hp => ?_⟩
  · obtain ⟨v, h1, h2⟩ := h i j ct hi hj
    have hjl : j < cts.length := (List.getElem?_eq_some_iff.1 hj).1
    have hlt : i * cts.length + j < xs.length * cts.length := by
      have := Nat.mul_le_mul_right cts.length (show i + 1 ≤ xs.length from hi)
      rw [Nat.add_mul] at this
      omega
    exact ⟨v, by rw [hget _ hlt]; exact h1, h2⟩
  · have hlt : p < xs.length * cts.length := by
      have := (List.getElem?_eq_some_iff.1 hp).1
      simp at this
      omega
    rw [hget _ hlt] at hp
    exact hp
/-- A slice in a new block of its own, of which there is no other view. -/
theorem Rep.grownUni (h : Rep g0 w0 g w σ a N) {d : Nat} (hd : d < N) {cts : List CT} {xs : List (List D)} {us rest : List Value} {cap : Nat} {e : TypeId} (hv : RowVals g.stable w cts xs us) (hcap : xs.length ≤ cap) (hm : cap ≤ maxLen) (hsz : us.length + rest.length = cap * cts.length) :
    ∃ g', Rep g0 w0 g' (w.alloc (.cells (us ++ rest).toArray e)) (σ.put (.tmp d (some (.uni cts xs)))) (a.put (some d) (.slice (some (pl w.heap.size 0)) xs.length cap)) N := by
  have h1 := h.newBlock (.cells (us ++ rest).toArray e) (.arr (.tmp d) 0) (by
    rintro r l e' hu
    cases e'
    have := Slot.under_root hu
    simp [Slot.root] at this)
  refine ⟨_, h1.putTmp hd (.uni _ _ _ _ (.inr ⟨w.heap.size, cap, _, (e, (0, 0)), rfl, hcap, hm, by simp [Gh.set], heap_push_new w _, ⟨by simp; omega, unfz_none _⟩, ?_⟩))⟩
  exact uni_of_rows (hv.mono (stable_push h _ _)) fun p u hp => by simp [List.getElem?_append_left (List.getElem?_eq_some_iff.1 hp).1, hp]

theorem op_append {args : Array Operand} {ats : Array TypeId} (ho : o.op = .call ⟨.builtin .append, args, ats⟩) (hok : InfoOk P I) (h : Rep g0 w0 g w σ a N) (hd : ∀ t, o.dst = some t → t < N) (hdn : o.dst ≠ none) (hr : (opM I ops o).run σ = some (true, ws)) (hn : ∀ g' a' w', Rep g0 w0 g' w' (σ.puts ws) a' N → next a' w') : o.wp P a w next Q := by
  unfold opM at hr
  rw [ho] at hr
  simp only at hr
  split at hr
  case h_2 => cases hr
  rename_i s x t t2 ha hat
  obtain rfl : args = #[s, x] := by cases args; simp_all
  obtain rfl : ats = #[t, t2] := by cases ats; simp_all
  clear ha hat
  split at hr
  case h_2 => cases hr
  rename_i e d2 ht ht2
  split at hr
  case h_2 => cases hr
  rename_i cts by_ hcts hby hd2
  cases hzz : I.zero e with
  | none => rw [hzz] at hr; cases hr
  | some zs =>
  rw [hzz] at hr
  simp only at hr
  split at hr
  case isFalse => cases hr
  rename_i hz
  simp only [Bool.and_eq_true, decide_eq_true_eq] at hz
  obtain ⟨hz, hpos⟩ := hz
  obtain ⟨v, hr1, hv, hx, hp⟩ := opd_sound h hr
  clear hr
  obtain ⟨u, hr, hu, -, -⟩ := opd_sound h hr1
  clear hr1
  split at hr
  case h_2 => cases hr
  rename_i ys hys
  obtain ⟨d, hdd⟩ := Option.ne_none_iff_exists'.1 hdn
  obtain ⟨inf, hinf, hisz⟩ := hok.cts hcts
  obtain ⟨inf2, hinf2, hib⟩ := hok.bytes hby
  have : inf2 = inf := Option.some.inj (hinf2.symm.trans hinf)
  subst this
  obtain ⟨inf3, z, hinf3, hz1, hz2⟩ := hok.zero hzz
  have : inf3 = inf2 := Option.some.inj (hinf3.symm.trans hinf)
  subst this
  have hzlen : z.cells.size = cts.length := by rw [← hz, hz2]; simp
  have hsz : 0 < inf3.size := by rw [hisz]; exact hpos
  have key : ys.length ≤ 70368744177664 → ys.length * inf3.bytes ≤ 281474976710656 → ∃ news, RowVals g.stable w cts ys news ∧ AppSrc P t t2 inf3 z (a.eval x) e w ys.length news := by
    intro hm1 hm2
    by_cases hint : ∃ k, d2 = .int k
    · obtain ⟨kn, rfl⟩ := hint
      simp only [srcRows, hzz, Option.getD_some] at hys
      split at hys
      · rename_i k n
        split at hys
        · rename_i h0
          obtain ⟨row, hrow, rfl⟩ := Option.map_eq_some_iff.1 hys
          have hx' := val_inv hu
          have hn' : ((n.toNat : Nat) : Int) = n := by omega
          rw [List.length_replicate] at hm1 hm2 ⊢
          refine ⟨_, zero_rows (st := g.stable) (by rw [← hz2]; exact hrow) hzlen n.toNat, ?_⟩
          rw [hx']
          have := appSrc_zeros (P := P) (w := w) (k := k) (hok.und ht) hinf hz1 (hok.und ht2) hsz (m := n.toNat) hm2 hm1
          rw [hn'] at this
          exact this
        · cases hys
      · cases hys
    · have hni : ∀ k, d2 ≠ .int k := fun k e => hint ⟨k, e⟩
      have hys' : rowsOf cts u = some ys := by
        unfold srcRows at hys
        split at hys
        · rename_i k; exact absurd rfl (hni k)
        · exact hys
      obtain ⟨news, hnews, hlen, hfirst⟩ := source (P := P) hu hys'
      refine ⟨news, hnews, appSrc_rows (hok.und ht) hinf hz1 (hok.und ht2) hni ?_ hlen (fun w' hw' => by rw [hisz]; exact hfirst w' hw')⟩
      by_cases h0 : ys.length = 0
      · left; rw [hnews.1, h0, Nat.zero_mul]
      · exact .inr h0
  have he : execOp a.eval o = (Builtin.append_ #[t, t2] o.type #[a.eval s, a.eval x]).bind fun v => .pure (.value v) := by
    rw [callBuiltin ho, show (#[s, x] : Array Operand).map a.eval = #[a.eval s, a.eval x] by simp]; rfl
  have grow : ∀ (uq : Bool) (σ1 : St) (xs : List (List D)) (us : List Value) (base : Option Addr) (cap : Nat), Rep g0 w0 g w σ1 a N → RowVals g.stable w cts xs us → a.eval s = .slice base xs.length cap → (∀ w' : World, w'.heap = w.heap → (Builtin.firstCells cts.length xs.length (.slice base xs.length cap)).run P w' = .ok us.toArray w') →
      xs.length ≤ cap → ∀ (news : List Value), RowVals g.stable w cts ys news → AppSrc P t t2 inf3 z (a.eval x) e w ys.length news → cap < xs.length + ys.length → (xs.length + ys.length) * by_ ≤ 70368744177664 → xs.length + ys.length ≤ 70368744177664 → (∀ g' a' w', Rep g0 w0 g' w' (σ1.put (.tmp d (some (if uq then .uni cts (xs ++ ys) else .own cts (xs ++ ys))))) a' N → next a' w') → o.wp P a w next Q := by
    intro uq σ1 xs us base cap h1 hus hs hfo hnc news hnews hsrc hlt hb hb2 hn
    have hle2 : ys.length * by_ ≤ (xs.length + ys.length) * by_ := Nat.mul_le_mul_right _ (by omega)
    have hrun := hsrc.grow (ty := o.type) (base := base) (n := xs.length) (cap := cap) (olds := us) hnc (by rw [hisz]; exact hfo w.drew rfl) hlt (by omega) (by rw [hib]; omega) (growslice_fits hlt (by rw [hib]; omega))
    refine up_value (sem_run he (by rw [hs]; exact hrun)) ?_
    rw [hdd]
    have h2 : Rep g0 w0 g w.drew σ1 a N := h1.sameHeap rfl rfl rfl rfl
    have hrow := hus.append hnews
    have hge := grownCap_ge w (xs.length + ys.length) cap e
    have hle := grownCap_le_maxLen w (xs.length + ys.length) cap e (by simp only [maxLen]; omega)
    have hrow' : RowVals g.stable w.drew cts (xs ++ ys) (us ++ news) := RowVals.mono (st := g.stable) (st' := g.stable) (w := w) (w' := w.drew) (fun _ _ _ a b => ⟨a, b⟩) hrow
    have hlen2 : (us ++ news).length + (Builtin.zeroCells z.cells (grownCap w (xs.length + ys.length) cap e - (xs.length + ys.length))).toList.length = grownCap w (xs.length + ys.length) cap e * cts.length := by
      have e0 : (Builtin.zeroCells z.cells (grownCap w (xs.length + ys.length) cap e - (xs.length + ys.length))).toList.length = (grownCap w (xs.length + ys.length) cap e - (xs.length + ys.length)) * cts.length := by simp [size_zeroCells, hzlen]
      rw [hrow.1, e0, List.length_append, ← Nat.add_mul]
      congr 1
      omega
    obtain ⟨g', h3⟩ : ∃ g', Rep g0 w0 g' (w.drew.alloc (.cells (us ++ news ++ (Builtin.zeroCells z.cells (grownCap w (xs.length + ys.length) cap e - (xs.length + ys.length))).toList).toArray e)) (σ1.put (.tmp d (some (if uq then .uni cts (xs ++ ys) else .own cts (xs ++ ys))))) (a.put (some d) (.slice (some (pl w.drew.heap.size 0)) (xs ++ ys).length (grownCap w (xs.length + ys.length) cap e))) N := by
      cases uq with
      | false => exact h2.grown (d := d) (hd d hdd) (e := e) hrow' (by rw [List.length_append]; exact hge) hle hlen2
      | true => exact h2.grownUni (d := d) (hd d hdd) (e := e) hrow' (by rw [List.length_append]; exact hge) hle hlen2
    refine hn g' _ _ ?_
    have e1 : (us.toArray ++ news.toArray ++ Builtin.zeroCells z.cells (grownCap w (xs.length + ys.length) cap e - (xs.length + ys.length))) = (us ++ news ++ (Builtin.zeroCells z.cells (grownCap w (xs.length + ys.length) cap e - (xs.length + ys.length))).toList).toArray := by
      apply Array.ext'
      simp
    rw [e1]
    rw [List.length_append] at h3
    exact h3
  split at hr
  · -- nothing yet
    rename_i hve
    simp only [if_true] at hr
    obtain ⟨hb, hr⟩ := ret_ok hr
    simp only [Bool.and_eq_true, decide_eq_true_eq] at hb
    simp only [M.run, Option.some.injEq, Prod.mk.injEq, true_and] at hr
    subst hr
    have hs := val_inv hv
    rw [hdd] at hn
    obtain ⟨news, hnews, hsrc⟩ := key hb.2 (by rw [hib]; omega)
    by_cases hy0 : ys.length = 0
    · have hy : ys = [] := List.eq_nil_of_length_eq_zero hy0
      have := hsrc.none hy0 (ty := o.type) .none
      refine up_value (sem_run he (by rw [hs]; exact this)) ?_
      rw [hdd]
      rw [hy] at hn
      exact hn g _ _ (h.putTmp (hd d hdd) (.own _ _ _ _ (.nil _ _ _ rfl) (.inl rfl)))
    · refine grow false σ [] [] none 0 h (rowVals_nil _) hs (fun w' _ => by simp [Builtin.firstCells]) (by simp) news hnews hsrc (by simp; omega) (by simpa using hb.1) (by simpa using hb.2) ?_
      exact hn
  · rename_i vv d0 ct xs
    split at hr
    case isFalse => cases hr
    rename_i hsame
    obtain rfl := sameCTs_eq _ _ hsame
    have hs0 := hx d0 rfl
    have h1 := h.dropTmp d0
    have hr' : ((decide ((xs.length + ys.length) * by_ ≤ 70368744177664) && decide (xs.length + ys.length ≤ 70368744177664)) = true) ∧ W.tmp d0 none :: dstW o.dst (.uni ct (xs ++ ys)) = ws := by
      simpa only [M.run, Option.some.injEq, Prod.mk.injEq] using hr
    obtain ⟨hb, rfl⟩ := hr'
    simp only [Bool.and_eq_true, decide_eq_true_eq] at hb
    rw [hdd] at hn
    have hle2 : ys.length * by_ ≤ (xs.length + ys.length) * by_ := Nat.mul_le_mul_right _ (by omega)
    obtain ⟨news, hnews, hsrc⟩ := key (by omega) (by rw [hib]; omega)
    have hplain : ∀ u, (σ.put (.tmp d0 none)).tmp d0 = some u → u.plain := fun u hu => by simp at hu
    have hur : UniRel g w (.tmp d0) ct xs (a.eval (.tmp d0)) := by cases hv; assumption
    rcases hur with ⟨hxe, hs⟩ | ⟨b, cap, cur, e1, hs, s1, s2, s3, s4, s5, s6⟩
    · subst hxe
      by_cases hy0 : ys.length = 0
      · have hy : ys = [] := List.eq_nil_of_length_eq_zero hy0
        have := hsrc.none hy0 (ty := o.type) .none
        refine up_value (sem_run he (by rw [hs]; exact this)) ?_
        rw [hdd]
        rw [hy] at hn
        exact hn g _ _ (h1.putTmp (hd d hdd) (.uni _ _ _ _ (.inl ⟨rfl, rfl⟩)))
      · exact grow true _ [] [] none 0 h1 (rowVals_nil _) hs (fun w' _ => by simp [Builtin.firstCells]) (by simp) news hnews hsrc (by simp; omega) (by simpa using hb.1) (by simpa using hb.2) hn
    · obtain ⟨us, hus, hcells⟩ := rows_of_uni s1 s5.1 s6
      have hcell : ∀ p u, us[p]? = some u → w.cell? (pl b (0 + p)) = some u := fun p u hp => by simp only [World.cell?, s4, Nat.zero_add]; simpa using hcells p u hp
      have hfo : ∀ w' : World, w'.heap = w.heap → (Builtin.firstCells ct.length xs.length (.slice (some (pl b 0)) xs.length cap)).run P w' = .ok us.toArray w' := fun w' hw =>
        run_firstCells_some w' ct.length xs.length (pl b 0) xs.length cap us hus.1 (fun j v hj => by rw [pl_add]; have := hcell j v hj; simp only [World.cell?, hw] at this ⊢; exact this)
      by_cases hroom : xs.length + ys.length ≤ cap
      · have hfit : xs.length * ct.length + news.length ≤ cur.size := by rw [hnews.1, s5.1, ← Nat.add_mul]; exact Nat.mul_le_mul_right _ hroom
        have hcellsNew : ∀ j, j < news.length → (w.cell? (pl b (xs.length * ct.length + j))).isSome = true := fun j hj => by
          simp [World.cell?, s4, Array.getElem?_eq_getElem (show xs.length * ct.length + j < cur.size by omega)]
        have hst := run_storeCells_cells (P := P) b (xs.length * ct.length) news 0 w (fun j hj => by simpa using hcellsNew j hj) (fun j hj => by have := s5.2.at (xs.length * ct.length + j) (by omega); simpa [World.frozen?, s4] using this) hnews.oneCell
        simp only [Nat.add_zero] at hst
        have hrun := hsrc.room (ty := o.type) (b := b) (q := 0) (n := xs.length) (cap := cap) hroom (by rw [hisz, Nat.zero_add]; exact hst)
        refine up_value (sem_run he (by rw [hs]; exact hrun)) ?_
        rw [hdd]
        obtain ⟨cur', c1, c2, c3, c4, c5⟩ := setCells_block b e1.1 e1.2 news (xs.length * ct.length) w cur s4 hfit
        obtain ⟨z1, z2, z3, z4⟩ := setCells_same b news (xs.length * ct.length) w
        obtain ⟨h2, hst2⟩ := h1.change (d := d) (L' := 0) (w' := w.setCells b (xs.length * ct.length) news) s3 z1 z2 z3 z4 (fun b' hb' => setCells_heap b news _ w b' hb') (fun o c ho => by omega) (Nat.le_refl _) hplain
        refine hn _ _ _ (h2.putTmp (hd d hdd) ?_)
        rw [← List.length_append]
        refine .uni _ _ _ _ (.inr ⟨b, cap, cur', e1, rfl, by rw [List.length_append]; exact hroom, s2, by simp [Gh.set], c1, ⟨by rw [c2, s5.1], by rw [c2]; exact s5.2⟩, ?_⟩)
        refine uni_of_rows ((hus.append hnews).mono hst2) fun p u hp => ?_
        by_cases hpu : p < us.length
        · rw [List.getElem?_append_left hpu] at hp
          rw [c3 p (by rw [← hus.1]; exact hpu)]
          exact hcells p u hp
        · rw [List.getElem?_append_right (by omega)] at hp
          have h4 := c4 _ u hp
          rw [← hus.1, show us.length + (p - us.length) = p by omega] at h4
          exact h4
      · exact grow true _ xs us _ cap h1 hus hs hfo s1 news hnews hsrc (by omega) hb.1 hb.2 hn
  · rename_i vv d0 ct xs
    split at hr
    case isFalse => cases hr
    rename_i hsame
    obtain rfl := sameCTs_eq _ _ hsame
    have hs0 := hx d0 rfl
    have h1 := h.viewTmp hs0 (v' := .arr ct xs) (fun c hc => hc.view)
    have hr' : ((decide ((xs.length + ys.length) * by_ ≤ 70368744177664) && decide (xs.length + ys.length ≤ 70368744177664)) = true) ∧ W.tmp d0 (some (.arr ct xs)) :: dstW o.dst (.own ct (xs ++ ys)) = ws := by
      simpa only [M.run, Option.some.injEq, Prod.mk.injEq] using hr
    obtain ⟨hb, rfl⟩ := hr'
    simp only [Bool.and_eq_true, decide_eq_true_eq] at hb
    rw [hdd] at hn
    have hle2 : ys.length * by_ ≤ (xs.length + ys.length) * by_ := Nat.mul_le_mul_right _ (by omega)
    obtain ⟨news, hnews, hsrc⟩ := key (by omega) (by rw [hib]; omega)
    have hplain : ∀ u, (σ.put (.tmp d0 (some (.arr ct xs)))).tmp d0 = some u → u.plain := fun u hu => by simp at hu; subst hu; trivial
    have hvd := own_d hv
    have hspare : Spare g w (.tmp d0) ct.length xs.length (a.eval (.tmp d0)) := by cases hv; assumption
    have nilcase : ∀ (p : Option Addr), a.eval (.tmp d0) = .slice p 0 0 → xs = [] → o.wp P a w next Q := by
      intro p hs hxe
      subst hxe
      by_cases hy0 : ys.length = 0
      · have hy : ys = [] := List.eq_nil_of_length_eq_zero hy0
        have := hsrc.none hy0 (ty := o.type) p
        refine up_value (sem_run he (by rw [hs]; exact this)) ?_
        rw [hdd]
        rw [hy] at hn
        exact hn g _ _ (h1.putTmp (hd d hdd) (.own _ _ _ _ (.nil _ _ _ rfl) (.inr (.inl ⟨rfl, p, rfl⟩))))
      · refine grow false _ [] [] p 0 h1 (rowVals_nil _) hs (fun w' _ => ?_) (by simp) news hnews hsrc (by simp; omega) (by simpa using hb.1) (by simpa using hb.2) hn
        cases p with
        | none => simp [Builtin.firstCells]
        | some q => simpa [Builtin.firstCells] using run_loadCells_list (P := P) w' q [] (fun j v hj => by simp at hj)
    have hrow : (xs = [] ∧ ∃ p, a.eval (.tmp d0) = .slice p 0 0) ∨ ∃ b o cap, a.eval (.tmp d0) = .slice (some (pl b o)) xs.length cap ∧ xs.length ≤ cap ∧ cap ≤ maxLen := by
      rcases row_inv (s := .none) hvd with ⟨hxe, p, hs⟩ | hh
      · rcases hspare with hsp | ⟨hl0, p, hsp⟩ | ⟨b1, cap1, cur, e1, hsp, s1, s2, _⟩
        · exact .inl ⟨hxe, none, hsp⟩
        · exact .inl ⟨hxe, p, hsp⟩
        · exact .inr ⟨b1, 0, cap1, hsp, s1, s2⟩
      · exact .inr hh
    rcases hrow with ⟨hxe, p, hs⟩ | ⟨b, q, cap, hs, hc, hm⟩
    · exact nilcase p hs hxe
    · have hvd' := hvd
      rw [hs] at hvd'
      obtain ⟨us, hus, hcells⟩ := rowVals_of hvd'
      have hfo : ∀ w' : World, w'.heap = w.heap → (Builtin.firstCells ct.length xs.length (.slice (some (pl b q)) xs.length cap)).run P w' = .ok us.toArray w' := fun w' hw =>
        run_firstCells_some w' ct.length xs.length (pl b q) xs.length cap us hus.1 (fun j v hj => by rw [pl_add]; have := (hcells j v hj).2; simp only [World.cell?, hw] at this ⊢; exact this)
      by_cases hroom : xs.length + ys.length ≤ cap
      · rcases hspare with hsp | hsp | ⟨b1, cap1, cur, e1, hsp, s1, s2, s3, s4, s5⟩
        · rw [hs] at hsp; cases hsp
        · obtain ⟨hl0, p, hsp⟩ := hsp
          exact nilcase p hsp (List.eq_nil_of_length_eq_zero hl0)
        · rw [hs] at hsp
          simp only [Value.slice.injEq, Option.some.injEq, Addr.mk.injEq, and_true, true_and] at hsp
          obtain ⟨⟨rfl, rfl⟩, rfl⟩ := hsp
          have hfit : xs.length * ct.length + news.length ≤ cur.size := by rw [hnews.1, s5.1, ← Nat.add_mul]; exact Nat.mul_le_mul_right _ hroom
          have hcellsNew : ∀ j, j < news.length → (w.cell? (pl b (xs.length * ct.length + j))).isSome = true := fun j hj => by
            simp [World.cell?, s4, Array.getElem?_eq_getElem (show xs.length * ct.length + j < cur.size by omega)]
          have hst := run_storeCells_cells (P := P) b (xs.length * ct.length) news 0 w (fun j hj => by simpa using hcellsNew j hj) (fun j hj => by have := s5.2.at (xs.length * ct.length + j) (by omega); simpa [World.frozen?, s4] using this) hnews.oneCell
          simp only [Nat.add_zero] at hst
          have hrun := hsrc.room (ty := o.type) (b := b) (q := 0) (n := xs.length) (cap := cap) hroom (by rw [hisz, Nat.zero_add]; exact hst)
          refine up_value (sem_run he (by rw [hs]; exact hrun)) ?_
          rw [hdd]
          obtain ⟨h2, hst2⟩ := h1.extend (d := d) (L' := (xs ++ ys).length * ct.length) (vs := news) s3 s4 hfit (Nat.mul_le_mul_right _ (by simp)) hplain
          obtain ⟨cur', c1, c2, c3, c4, c5⟩ := setCells_block b e1.1 e1.2 news (xs.length * ct.length) w cur s4 hfit
          refine hn _ _ _ (h2.putTmp (hd d hdd) ?_)
          rw [← List.length_append]
          refine .own _ _ _ _ (((hus.append hnews).mono hst2).drel (by rw [List.length_append]; exact hroom) hm (fun p u hp => ?_)) (.inr (.inr ⟨b, cap, cur', e1, rfl, by rw [List.length_append]; exact hroom, hm, by simp [Gh.set], c1, by rw [c2, s5.1], by rw [c2]; exact s5.2⟩))
          obtain ⟨hlt, _⟩ := List.getElem?_eq_some_iff.1 hp
          rw [(hus.append hnews).1] at hlt
          refine ⟨by simp only [Gh.stable, Gh.set, if_true, Nat.zero_add]; exact hlt, ?_⟩
          simp only [World.cell?, Nat.zero_add, c1]
          by_cases hpu : p < us.length
          · rw [List.getElem?_append_left hpu] at hp
            have := (hcells p u hp).2
            simp only [World.cell?, Nat.zero_add, s4] at this
            have h3 := c3 p (by rw [← hus.1]; exact hpu)
            simpa [h3] using this
          · rw [List.getElem?_append_right (by omega)] at hp
            have h4 := c4 _ u hp
            rw [← hus.1, show us.length + (p - us.length) = p by omega] at h4
            simpa using h4
      · exact grow false _ xs us _ cap h1 hus hs hfo hc news hnews hsrc (by omega) hb.1 hb.2 hn
  · cases hr
end
end Go.Proofs.Ytkcopbnaleiocaa.Ev
