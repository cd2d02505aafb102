/- What the evaluator's operations write stands for what the model's operations leave: append, as a whole. -/
import Derived.Test.YthloggdgdklgmaaOp9
namespace Go.Proofs.Ythloggdgdklgmaa.Ev
open Go
set_option linter.unusedVariables false
set_option linter.unusedSimpArgs false
section
variable {P : Program} {I : Info} {g0 g : Gh} {w0 w : World} {σ : St} {a : Act} {N : Nat} {o : Oper} {ops : List Oper} {next : Act → World → Prop} {Q : Exit → Act → World → Prop} {ws : List W} {b : Bool}

theorem DRel.oneCell {st : Nat → Nat → Prop} {ct : CT} {d : D} {c : Value} (h : DRel st w ct d c) : c.oneCell' = true := by
  cases h <;> rfl
theorem RowVals.oneCell {st : Nat → Nat → Prop} {cts : List CT} {xs : List (List D)} {us : List Value} (h : RowVals st w cts xs us) : ∀ u ∈ us, u.oneCell' = true := by
  intro u hu
  obtain ⟨p, hp, rfl⟩ := List.getElem_of_mem hu
  rw [h.1] at hp
  have h0 : 0 < cts.length := by
    rcases Nat.eq_zero_or_pos cts.length with h0 | h0
    · rw [h0] at hp; omega
    · exact h0
  obtain ⟨u, h1, h2⟩ := h.2 (p / cts.length) (p % cts.length) _ (Nat.div_lt_of_lt_mul (by rw [Nat.mul_comm]; exact hp)) (List.getElem?_eq_getElem (Nat.mod_lt _ h0))
  rw [Nat.mul_comm, Nat.div_add_mod] at h1
  rw [(List.getElem?_eq_some_iff.1 h1).2]
  exact h2.oneCell
theorem rowVals_nil {st : Nat → Nat → Prop} (cts : List CT) : RowVals st w cts [] [] := ⟨by simp, fun i j c hi => absurd hi (by simp)⟩
theorem rowVals_bytes {st : Nat → Nat → Prop} (s : ByteArray) : RowVals st w [.int .u8] (bytesRow s) (s.data.toList.map fun b => Value.int .u8 (b.toNat : Int)) := by
  refine ⟨by simp [bytesRow], fun i j c hi hj => ?_⟩
  have hlen : (bytesRow s).length = s.data.toList.length := by simp [bytesRow]
  cases j with
  | succ j => simp at hj
  | zero =>
    simp at hj
    subst hj
    have hi' : i < s.data.toList.length := by omega
    refine ⟨.int .u8 (s.data.toList[i].toNat : Int), by simp [List.getElem?_eq_getElem hi'], ?_⟩
    have : ((bytesRow s).getD i []).getD 0 default = D.int (s.data.toList[i].toNat : Int) := by
      have e1 : (bytesRow s)[i]? = some [D.int (s.data.toList[i].toNat : Int)] := by
        unfold bytesRow
        rw [List.getElem?_map, List.getElem?_eq_getElem hi']
        rfl
      rw [List.getD_eq_getElem?_getD (l := bytesRow s), e1]
      rfl
    rw [this]
    exact DRel.int .u8 (.int _)
/-- What is appended. -/
theorem source {s : Slot} {cts : List CT} {u : V} {c : Value} {ys : List (List D)} (hv : VRel g w s u c) (hy : rowsOf cts u = some ys) :
    ∃ news, RowVals g.stable w cts ys news ∧ (∀ w' : World, (Builtin.lenOf c).run P w' = .ok ys.length w') ∧ (∀ w' : World, w'.heap = w.heap → (Builtin.firstCells cts.length ys.length c).run P w' = .ok news.toArray w') := by
  have slice : ∀ xs, DRel g.stable w (.arr cts) (.arr xs) c → ∃ news, RowVals g.stable w cts xs news ∧ (∀ w' : World, (Builtin.lenOf c).run P w' = .ok xs.length w') ∧ (∀ w' : World, w'.heap = w.heap → (Builtin.firstCells cts.length xs.length c).run P w' = .ok news.toArray w') := by
    intro xs hx
    rcases row_inv (s := s) hx with ⟨rfl, p, rfl⟩ | ⟨b, q, cap, rfl, _, _⟩
    · exact ⟨[], rowVals_nil _, fun w' => by simp [nilSlice, Builtin.lenOf], fun w' _ => by
        cases p with
        | none => simp [nilSlice, Builtin.firstCells]
        | some q => simpa [Builtin.firstCells] using run_loadCells_list (P := P) w' q [] (fun j v hj => by simp at hj)⟩
    · obtain ⟨us, h1, h2⟩ := rowVals_of hx
      refine ⟨us, h1, fun w' => by simp [Builtin.lenOf], fun w' hw => ?_⟩
      exact run_firstCells_some w' cts.length xs.length (pl b q) xs.length cap us h1.1 (fun j v hj => by rw [pl_add]; have := (h2 j v hj).2; simp only [World.cell?, hw] at this ⊢; exact this)
  cases u with
  | arr ct xs =>
    simp only [rowsOf] at hy
    split at hy
    · rename_i e
      cases hy
      rw [sameCTs_eq _ _ e] at hv
      exact slice _ (arr_d hv)
    · cases hy
  | own ct xs =>
    simp only [rowsOf] at hy
    split at hy
    · rename_i e
      cases hy
      rw [sameCTs_eq _ _ e] at hv
      exact slice _ (own_d hv)
    · cases hy
  | val v =>
    have e := val_inv hv
    subst e
    simp only [rowsOf] at hy
    split at hy
    · simp_all
    · simp_all
    · rename_i e
      cases e
      cases hy
      exact ⟨[], rowVals_nil _, fun w' => by simp [Builtin.lenOf], fun w' _ => by simp [Builtin.firstCells]⟩
    · rename_i st' e
      cases e
      split at hy
      · rename_i e
        cases hy
        rw [sameCTs_eq _ _ e]
        refine ⟨_, rowVals_bytes st', fun w' => by simp [Builtin.lenOf, bytesRow], fun w' _ => ?_⟩
        have : (bytesRow st').length = st'.size := by simp [bytesRow]
        rw [this]
        simp [Builtin.firstCells]
        apply Array.ext'
        simp
      · cases hy
    · cases hy
  | _ => cases hy

theorem getElem?_of_take {α : Type} {l : Array α} {p : Nat} {u : α} {xs ys : List α} (h : l = (xs ++ ys).toArray) (hp : xs[p]? = some u) : l[p]? = some u := by
  subst h
  simp only [List.getElem?_toArray]
  rw [List.getElem?_append_left (List.getElem?_eq_some_iff.1 hp).1]
  exact hp
/-- A slice in a new block of its own. -/
theorem Rep.grown (h : Rep g0 w0 g w σ a N) {d : Nat} (hd : d < N) {cts : List CT} {xs : List (List D)} {us rest : List Value} {cap : Nat} {e : TypeId} (hv : RowVals g.stable w cts xs us) (hcap : xs.length ≤ cap) (hm : cap ≤ maxLen) (hsz : us.length + rest.length = cap * cts.length) :
    ∃ g', Rep g0 w0 g' (w.alloc (.cells (us ++ rest).toArray e)) (σ.put (.tmp d (some (.own cts xs)))) (a.put (some d) (.slice (some (pl w.heap.size 0)) xs.length cap)) N := by
  have h1 := h.newBlock (.cells (us ++ rest).toArray e) (.arr (.tmp d) (xs.length * cts.length)) (by
    rintro r l e' hu
    cases e'
    have := Slot.under_root hu
    simp [Slot.root] at this)
  refine ⟨_, h1.putTmp hd (.own _ _ _ _ ?_ (.inr (.inr ⟨w.heap.size, cap, _, e, rfl, hcap, hm, by simp [Gh.set], heap_push_new w _, by simp; omega⟩)))⟩
  refine (hv.mono (stable_push h _ _)).drel hcap hm (fun p u hp => ?_)
  obtain ⟨hlt, _⟩ := List.getElem?_eq_some_iff.1 hp
  rw [hv.1] at hlt
  refine ⟨by simp only [Gh.stable, Gh.set, if_true, Nat.zero_add]; exact hlt, ?_⟩
  simp only [World.cell?, Nat.zero_add, heap_push_new]
  simp [List.getElem?_append_left (List.getElem?_eq_some_iff.1 hp).1, hp]

theorem op_append {args : Array Operand} {ats : Array TypeId} (ho : o.op = .call ⟨.builtin .append, args, ats⟩) (hok : InfoOk P I) (h : Rep g0 w0 g w σ a N) (hd : ∀ t, o.dst = some t → t < N) (hdn : o.dst ≠ none) (hr : (opM I ops o).run σ = some (true, ws)) (hn : ∀ g' a' w', Rep g0 w0 g' w' (σ.puts ws) a' N → next a' w') : o.wp P a w next Q := by
  unfold opM at hr
  rw [ho] at hr
  simp only at hr
  split at hr
  case h_2 => cases hr
  rename_i s x t t2 ha hat
  obtain rfl : args = #[s, x] := by cases args; simp_all
  obtain rfl : ats = #[t, t2] := by cases ats; simp_all
  clear ha hat
  split at hr
  case h_2 => cases hr
  rename_i e d2 ht ht2
  split at hr
  case h_2 => cases hr
  rename_i cts by_ hcts hby hd2
  cases hzz : I.zero e with
  | none => rw [hzz] at hr; cases hr
  | some zs =>
  rw [hzz] at hr
  simp only at hr
  split at hr
  case isFalse => cases hr
  rename_i hz
  simp only [Bool.and_eq_true, decide_eq_true_eq] at hz
  obtain ⟨hz, hpos⟩ := hz
  obtain ⟨v, hr1, hv, hx, hp⟩ := opd_sound h hr
  clear hr
  obtain ⟨u, hr, hu, -, -⟩ := opd_sound h hr1
  clear hr1
  split at hr
  case h_2 => cases hr
  rename_i ys hys
  obtain ⟨d, hdd⟩ := Option.ne_none_iff_exists'.1 hdn
  obtain ⟨news, hnews, hlen, hfirst⟩ := source (P := P) hu hys
  obtain ⟨inf, hinf, hisz⟩ := hok.cts hcts
  obtain ⟨inf2, hinf2, hib⟩ := hok.bytes hby
  have : inf2 = inf := Option.some.inj (hinf2.symm.trans hinf)
  subst this
  obtain ⟨inf3, z, hinf3, hz1, hz2⟩ := hok.zero hzz
  have : inf3 = inf2 := Option.some.inj (hinf3.symm.trans hinf)
  subst this
  have hzlen : z.cells.size = cts.length := by rw [← hz, hz2]; simp
  have hni : ∀ k, d2 ≠ .int k := by rintro k rfl; cases hd2
  have he : execOp a.eval o = (Builtin.append_ #[t, t2] o.type #[a.eval s, a.eval x]).bind fun v => .pure (.value v) := by
    rw [callBuiltin ho, show (#[s, x] : Array Operand).map a.eval = #[a.eval s, a.eval x] by simp]; rfl
  have grow : ∀ (σ1 : St) (xs : List (List D)) (us : List Value) (base : Option Addr) (cap : Nat), Rep g0 w0 g w σ1 a N → RowVals g.stable w cts xs us → a.eval s = .slice base xs.length cap → (∀ w' : World, w'.heap = w.heap → (Builtin.firstCells cts.length xs.length (.slice base xs.length cap)).run P w' = .ok us.toArray w') →
      cap < xs.length + ys.length → (xs.length + ys.length) * by_ ≤ 70368744177664 → xs.length + ys.length ≤ 70368744177664 → (∀ g' a' w', Rep g0 w0 g' w' (σ1.put (.tmp d (some (.own cts (xs ++ ys))))) a' N → next a' w') → o.wp P a w next Q := by
    intro σ1 xs us base cap h1 hus hs hfo hlt hb hb2 hn
    have hrun := append_grow (P := P) (w := w) (ty := o.type) (x := a.eval x) (base := base) (n := xs.length) (cap := cap) (m := ys.length) (olds := us) (news := news) (hok.und ht) hinf hz1 (hok.und ht2) hni hlen (by rw [hisz]; exact hfo w.drew rfl) (by rw [hisz]; exact hfirst w.drew rfl) hlt (by omega) (growslice_fits hlt (by rw [hib]; omega))
    refine up_value (sem_run he (by rw [hs]; exact hrun)) ?_
    rw [hdd]
    have h2 : Rep g0 w0 g w.drew σ1 a N := h1.sameHeap rfl rfl rfl rfl
    have hrow := hus.append hnews
    have hge := grownCap_ge w (xs.length + ys.length) cap e
    have hle := grownCap_le_maxLen w (xs.length + ys.length) cap e (by simp only [maxLen]; omega)
    have hrow' : RowVals g.stable w.drew cts (xs ++ ys) (us ++ news) := RowVals.mono (st := g.stable) (st' := g.stable) (w := w) (w' := w.drew) (fun _ _ _ a b => ⟨a, b⟩) hrow
    have hlen2 : (us ++ news).length + (Builtin.zeroCells z.cells (grownCap w (xs.length + ys.length) cap e - (xs.length + ys.length))).toList.length = grownCap w (xs.length + ys.length) cap e * cts.length := by
      have e0 : (Builtin.zeroCells z.cells (grownCap w (xs.length + ys.length) cap e - (xs.length + ys.length))).toList.length = (grownCap w (xs.length + ys.length) cap e - (xs.length + ys.length)) * cts.length := by simp [size_zeroCells, hzlen]
      rw [hrow.1, e0, List.length_append, ← Nat.add_mul]
      congr 1
      omega
    obtain ⟨g', h3⟩ := h2.grown (d := d) (hd d hdd) (e := e) hrow' (by rw [List.length_append]; exact hge) hle hlen2
    refine hn g' _ _ ?_
    have e1 : (us.toArray ++ news.toArray ++ Builtin.zeroCells z.cells (grownCap w (xs.length + ys.length) cap e - (xs.length + ys.length))) = (us ++ news ++ (Builtin.zeroCells z.cells (grownCap w (xs.length + ys.length) cap e - (xs.length + ys.length))).toList).toArray := by
      apply Array.ext'
      simp
    rw [e1]
    rw [List.length_append] at h3
    exact h3
  split at hr
  · -- nothing yet
    rename_i hve
    simp only [if_true] at hr
    obtain ⟨hb, hr⟩ := ret_ok hr
    simp only [Bool.and_eq_true, decide_eq_true_eq] at hb
    simp only [M.run, Option.some.injEq, Prod.mk.injEq, true_and] at hr
    subst hr
    have hs := val_inv hv
    rw [hdd] at hn
    by_cases hy0 : ys.length = 0
    · have hy : ys = [] := List.eq_nil_of_length_eq_zero hy0
      subst hy
      have hn0 : news = [] := List.eq_nil_of_length_eq_zero (by rw [hnews.1]; simp)
      have := append_none (P := P) (w := w) (ty := o.type) (x := a.eval x) (hok.und ht) hinf (hok.und ht2) hni (fun w' => hlen w') (by have := hfirst w rfl; rw [hn0, ← hisz] at this; exact this)
      refine up_value (sem_run he (by rw [hs]; exact this)) ?_
      rw [hdd]
      exact hn g _ _ (h.putTmp (hd d hdd) (.own _ _ _ _ (.nil _ _ _ rfl) (.inl rfl)))
    · refine grow σ [] [] none 0 h (rowVals_nil _) hs (fun w' _ => by simp [Builtin.firstCells]) (by simp; omega) (by simpa using hb.1) (by simpa using hb.2) ?_
      exact hn
  · rename_i vv d0 ct xs
    split at hr
    case isFalse => cases hr
    rename_i hsame
    obtain rfl := sameCTs_eq _ _ hsame
    have hs0 := hx d0 rfl
    have h1 := h.viewTmp hs0 (v' := .arr ct xs) (fun c hc => hc.view)
    have hr' : ((decide ((xs.length + ys.length) * by_ ≤ 70368744177664) && decide (xs.length + ys.length ≤ 70368744177664)) = true) ∧ W.tmp d0 (some (.arr ct xs)) :: dstW o.dst (.own ct (xs ++ ys)) = ws := by
      simpa only [M.run, Option.some.injEq, Prod.mk.injEq] using hr
    obtain ⟨hb, rfl⟩ := hr'
    simp only [Bool.and_eq_true, decide_eq_true_eq] at hb
    rw [hdd] at hn
    have hplain : ∀ u, (σ.put (.tmp d0 (some (.arr ct xs)))).tmp d0 = some u → u.plain := fun u hu => by simp at hu; subst hu; trivial
    have hvd := own_d hv
    have hspare : Spare g w (.tmp d0) ct.length xs.length (a.eval (.tmp d0)) := by cases hv; assumption
    have nilcase : ∀ (xs0 : List (List D)), xs0 = xs → a.eval (.tmp d0) = nilSlice → xs = [] → o.wp P a w next Q := by
      intro xs0 _ hs hxe
      subst hxe
      by_cases hy0 : ys.length = 0
      · have hy : ys = [] := List.eq_nil_of_length_eq_zero hy0
        subst hy
        have hn0 : news = [] := List.eq_nil_of_length_eq_zero (by rw [hnews.1]; simp)
        have := append_none (P := P) (w := w) (ty := o.type) (x := a.eval x) (hok.und ht) hinf (hok.und ht2) hni (fun w' => hlen w') (by have := hfirst w rfl; rw [hn0, ← hisz] at this; exact this)
        refine up_value (sem_run he (by rw [hs]; exact this)) ?_
        rw [hdd]
        exact hn g _ _ (h1.putTmp (hd d hdd) (.own _ _ _ _ (.nil _ _ _ rfl) (.inl rfl)))
      · exact grow _ [] [] none 0 h1 (rowVals_nil _) hs (fun w' _ => by simp [Builtin.firstCells]) (by simp; omega) (by simpa using hb.1) (by simpa using hb.2) hn
    have hrow : (xs = [] ∧ a.eval (.tmp d0) = nilSlice) ∨ ∃ b o cap, a.eval (.tmp d0) = .slice (some (pl b o)) xs.length cap ∧ xs.length ≤ cap ∧ cap ≤ maxLen := by
      rcases row_inv (s := .none) hvd with ⟨hxe, p, hs⟩ | hh
      · rcases hspare with hsp | hsp | ⟨b1, cap1, cur, e1, hsp, s1, s2, _⟩
        · exact .inl ⟨hxe, hsp⟩
        · exact hsp.elim
        · exact .inr ⟨b1, 0, cap1, hsp, s1, s2⟩
      · exact .inr hh
    rcases hrow with ⟨hxe, hs⟩ | ⟨b, q, cap, hs, hc, hm⟩
    · exact nilcase _ rfl hs hxe
    · have hvd' := hvd
      rw [hs] at hvd'
      obtain ⟨us, hus, hcells⟩ := rowVals_of hvd'
      have hfo : ∀ w' : World, w'.heap = w.heap → (Builtin.firstCells ct.length xs.length (.slice (some (pl b q)) xs.length cap)).run P w' = .ok us.toArray w' := fun w' hw =>
        run_firstCells_some w' ct.length xs.length (pl b q) xs.length cap us hus.1 (fun j v hj => by rw [pl_add]; have := (hcells j v hj).2; simp only [World.cell?, hw] at this ⊢; exact this)
      by_cases hroom : xs.length + ys.length ≤ cap
      · rcases hspare with hsp | hsp | ⟨b1, cap1, cur, e1, hsp, s1, s2, s3, s4, s5⟩
        · rw [hs] at hsp; cases hsp
        · exact hsp.elim
        · rw [hs] at hsp
          simp only [Value.slice.injEq, Option.some.injEq, Addr.mk.injEq, and_true, true_and] at hsp
          obtain ⟨⟨rfl, rfl⟩, rfl⟩ := hsp
          have hfit : xs.length * ct.length + news.length ≤ cur.size := by rw [hnews.1, s5, ← Nat.add_mul]; exact Nat.mul_le_mul_right _ hroom
          have hcellsNew : ∀ j, j < news.length → (w.cell? (pl b (xs.length * ct.length + j))).isSome = true := fun j hj => by
            simp [World.cell?, s4, Array.getElem?_eq_getElem (show xs.length * ct.length + j < cur.size by omega)]
          have hst := run_storeCells_cells (P := P) b (xs.length * ct.length) news 0 w (fun j hj => by simpa using hcellsNew j hj) (fun j hj => by simp [World.frozen?, s4]) hnews.oneCell
          simp only [Nat.add_zero] at hst
          have hrun := append_room (P := P) (w := w) (ty := o.type) (x := a.eval x) (b := b) (q := 0) (n := xs.length) (cap := cap) (m := ys.length) (news := news) (hok.und ht) hinf (hok.und ht2) hni hlen (by rw [hisz]; exact hfirst w rfl) hroom (by rw [hisz, Nat.zero_add]; exact hst)
          refine up_value (sem_run he (by rw [hs]; exact hrun)) ?_
          rw [hdd]
          obtain ⟨h2, hst2⟩ := h1.extend (d := d) (L' := (xs ++ ys).length * ct.length) (vs := news) s3 s4 hfit (Nat.mul_le_mul_right _ (by simp)) hplain
          obtain ⟨cur', c1, c2, c3, c4, c5⟩ := setCells_block b e1 (0, 0) news (xs.length * ct.length) w cur s4 hfit
          refine hn _ _ _ (h2.putTmp (hd d hdd) ?_)
          rw [← List.length_append]
          refine .own _ _ _ _ (((hus.append hnews).mono hst2).drel (by rw [List.length_append]; exact hroom) hm (fun p u hp => ?_)) (.inr (.inr ⟨b, cap, cur', e1, rfl, by rw [List.length_append]; exact hroom, hm, by simp [Gh.set], c1, by rw [c2, s5]⟩))
          obtain ⟨hlt, _⟩ := List.getElem?_eq_some_iff.1 hp
          rw [(hus.append hnews).1] at hlt
          refine ⟨by simp only [Gh.stable, Gh.set, if_true, Nat.zero_add]; exact hlt, ?_⟩
          simp only [World.cell?, Nat.zero_add, c1]
          by_cases hpu : p < us.length
          · rw [List.getElem?_append_left hpu] at hp
            have := (hcells p u hp).2
            simp only [World.cell?, Nat.zero_add, s4] at this
            have h3 := c3 p (by rw [← hus.1]; exact hpu)
            simpa [h3] using this
          · rw [List.getElem?_append_right (by omega)] at hp
            have h4 := c4 _ u hp
            rw [← hus.1, show us.length + (p - us.length) = p by omega] at h4
            simpa using h4
      · exact grow _ xs us _ cap h1 hus hs hfo (by omega) hb.1 hb.2 hn
  · cases hr
end
end Go.Proofs.Ythloggdgdklgmaa.Ev
