/- What is kept behind a region; what a call leaves. -/
import Derived.Test.YtkcopbnaleiocaaOpI
namespace Go.Proofs.Ytkcopbnaleiocaa.Ev
open Go
set_option linter.unusedVariables false
set_option linter.unusedSimpArgs false
section
variable {P : Program} {I : Info} {g0 g : Gh} {w0 w : World} {σ τ : St} {a : Act} {N : Nat} {o : Oper} {next : Act → World → Prop} {Q : Exit → Act → World → Prop} {ws : List W} {rs : List Loc} {i : Nat}

def St.keepsKey (σ : St) (env : List (Nat × V)) (k : Key) : Bool := (match k with | .out _ => true | _ => false) || (env.any fun e => e.2.names k) || σ.box.any fun c => c.2.any (V.namesC k)
theorem getA_keep {σ : St} : ∀ (ts : List Nat) {t : Nat} {v : V}, getA (ts.filterMap fun t => (σ.tmp t).map fun v => (t, v)) t = some v → σ.tmp t = some v
  | [], t, v, h => by cases h
  | u :: ts, t, v, h => by
    simp only [List.filterMap_cons] at h
    cases hu : σ.tmp u with
    | none => rw [hu] at h; exact getA_keep ts h
    | some x =>
      rw [hu] at h
      simp only [Option.map_some, getA] at h
      by_cases e : u = t
      · subst e; simp only [if_true] at h; exact hu.trans h
      · simp only [e, if_false] at h; exact getA_keep ts h
theorem getA_mem {α β : Type} [DecidableEq α] : ∀ {l : List (α × β)} {a : α} {b : β}, getA l a = some b → (a, b) ∈ l
  | [], _, _, h => by cases h
  | (c, x) :: r, a, b, h => by
    simp only [getA] at h
    by_cases e : c = a
    · subst e; simp only [if_true, Option.some.injEq] at h; subst h; exact .head _
    · simp only [e, if_false] at h; exact .tail _ (getA_mem h)
theorem getA_filter {α β : Type} [DecidableEq α] (p : α → Bool) : ∀ (l : List (α × β)) (a : α), getA (l.filter fun b => p b.1) a = if p a then getA l a else none
  | [], a => by simp [getA]
  | (c, x) :: r, a => by
    rw [List.filter_cons]
    by_cases hp : p c
    · rw [if_pos hp]
      simp only [getA, getA_filter p r a]
      by_cases e : c = a
      · subst e; simp [hp]
      · simp [e]
    · rw [if_neg hp]
      simp only [getA, getA_filter p r a]
      by_cases e : c = a
      · subst e; simp [hp]
      · simp [e]
theorem VRel.reAt {g' : Gh} {s : Slot} {v : V} {c : Value} (h : VRel g w s v c) (hown : g'.own = g.own) (hk : ∀ k b, v.names k = true → g.at_ k = some b → g'.at_ k = some b) : VRel g' w s v c := by
  have hst : g'.stable = g.stable := by funext b o; simp only [Gh.stable, hown]
  have flat : ∀ {s : Slot} {v : V} {c : Value}, VRel g w s v c → (v.flat ∨ v.res) → (∀ us, v ≠ .agg us) → (∀ n rows, v ≠ .sarr n rows) → VRel g' w s v c := by
    intro s v c h hf hag hsa
    cases h with
    | val => exact .val _ _
    | arr _ _ _ _ h => exact .arr _ _ _ _ (by rw [hst]; exact h)
    | own _ _ _ _ h hs =>
      refine .own _ _ _ _ (by rw [hst]; exact h) ?_
      rcases hs with hs | hs | ⟨b, cap, cur, e, rfl, h1, h2, h3, h4, h5⟩
      · exact .inl hs
      · exact .inr (.inl hs)
      · exact .inr (.inr ⟨b, cap, cur, e, rfl, h1, h2, by rw [hown]; exact h3, h4, h5⟩)
    | agg => exact absurd rfl (hag _)
    | sarr => exact absurd rfl (hsa _ _)
    | uni _ _ _ _ h => exact .uni _ _ _ _ (h.mono (fun b o c a b' => by rw [hst]; exact ⟨a, b'⟩) fun b ho => ⟨by rw [hown]; exact ho, rfl⟩)
    | slen => exact .slen _ _ _ _
    | _ => rcases hf with hf | hf <;> exact hf.elim
  have cell : ∀ {v : V} {c : Value}, VRel g w .none v c → v.cellP → (∀ k b, V.namesC k v = true → g.at_ k = some b → g'.at_ k = some b) → VRel g' w .none v c := by
    intro v c h hf hk
    cases v with
    | ptr k off =>
      cases h with
      | ptr _ _ _ b h hkm => exact .ptr _ _ _ _ (hk k b (by cases k <;> first | (simp [V.namesC, Key.base]; done) | cases hkm) h) hkm
    | val => exact flat h (.inl trivial) (by simp) (by simp)
    | arr => exact flat h (.inl trivial) (by simp) (by simp)
    | own => exact flat h (.inl trivial) (by simp) (by simp)
    | _ => exact hf.elim
  have agg : ∀ {s : Slot} {us : List V} {c : Value}, VRel g w s (.agg us) c → (∀ k b, V.names k (.agg us) = true → g.at_ k = some b → g'.at_ k = some b) → VRel g' w s (.agg us) c := by
    intro s us c h hk
    cases h with
    | agg _ _ cs hl hf h => exact .agg _ _ cs hl hf fun i v c hv hc => cell (h i v c hv hc) (hf i v hv) fun k b hn => hk k b (by simp only [V.names, V.names1, List.any_eq_true]; exact ⟨v, List.mem_of_getElem? hv, hn⟩)
  have sarr : ∀ {s : Slot} {n : Nat} {rows : List (List V)} {c : Value}, VRel g w s (.sarr n rows) c → (∀ k b, V.names k (.sarr n rows) = true → g.at_ k = some b → g'.at_ k = some b) → VRel g' w s (.sarr n rows) c := by
    intro s n rows c h hk
    cases h with
    | sarr _ _ _ b f hl hm hf hc h => exact .sarr _ _ _ b f hl hm hf (fun i j r v hr hv => by rw [hst]; exact hc i j r v hr hv) fun i j r v hr hv => cell (h i j r v hr hv) (hf i j r v hr hv) fun k b hn => hk k b (by simp only [V.names, V.names1, List.any_eq_true]; exact ⟨r, List.mem_of_getElem? hr, v, List.mem_of_getElem? hv, hn⟩)
  cases h with
  | ptr _ k off b h hkm => exact .ptr _ _ _ _ (hk k b (by cases k <;> first | (simp [V.names, V.names1, Key.base]; done) | cases hkm) h) hkm
  | mp _ t b h => exact .mp _ _ _ (hk _ b (by simp [V.names, V.names1, Key.base]) h)
  | eptr _ _ _ _ _ _ _ _ hi h => exact .eptr _ _ _ _ _ _ _ _ hi (by rw [hst]; exact h)
  | agg _ _ cs hl hf h => exact agg (.agg _ _ cs hl hf h) hk
  | sarr _ _ _ b f hl hm hf hc h => exact sarr (.sarr _ _ _ b f hl hm hf hc h) hk
  | sptr _ n rows i b hi h => exact .sptr _ _ _ _ _ hi (sarr h hk)
  | tup _ us cs hl hr h =>
    refine .tup _ us cs hl hr fun i v c hv hc => ?_
    cases v with
    | agg => exact agg (h i _ c hv hc) (fun k b hn => hk k b (by simp only [V.names, List.any_eq_true]; exact ⟨_, List.mem_of_getElem? hv, hn⟩))
    | sarr => exact sarr (h i _ c hv hc) (fun k b hn => hk k b (by simp only [V.names, List.any_eq_true]; exact ⟨_, List.mem_of_getElem? hv, hn⟩))
    | _ => exact flat (h i _ c hv hc) (.inr (hr i _ hv)) (by simp) (by simp)
  | val => exact .val _ _
  | arr _ _ _ _ h => exact flat (.arr _ _ _ _ h) (.inl trivial) (by simp) (by simp)
  | own _ _ _ _ h hs => exact flat (.own _ _ _ _ h hs) (.inl trivial) (by simp) (by simp)
  | uni _ _ _ _ h => exact flat (.uni _ _ _ _ h) (.inr trivial) (by simp) (by simp)
  | slen _ n p cap => exact .slen _ _ _ _
  | ms _ t _ _ _ b _ n h hn ho hl hm => exact .ms _ _ _ _ _ _ _ _ (hk _ b (by simp [V.names, V.names1, Key.base]) h) (hk _ n (by simp [V.names, V.names1, Key.base]) hn) ho hl hm
  | mptr _ t _ _ _ b n h hn hi => exact .mptr _ _ _ _ _ _ _ (hk _ b (by simp [V.names, V.names1, Key.base]) h) (hk _ n (by simp [V.names, V.names1, Key.base]) hn) hi
theorem keepsNum (σ : St) (env : List (Nat × V)) (k : Key) : St.keepsKey σ env k.num = St.keepsKey σ env k := by
  cases k <;> try rfl
theorem keepsBase (σ : St) (env : List (Nat × V)) (k : Key) : St.keepsKey σ env k.base = St.keepsKey σ env k := by
  cases k <;> try rfl
theorem Rep.kept (h : Rep g0 w0 g w σ a N) (ts : List Nat) : ∃ g', Rep g0 w0 g' w (σ.kept ts) a N := by
  let env := ts.filterMap fun t => (σ.tmp t).map fun v => (t, v)
  have hbox : ∀ k, (σ.kept ts).cells k = if St.keepsKey σ env k then σ.cells k else none := fun k => getA_filter (St.keepsKey σ env) σ.box k
  have hout : ∀ i, St.keepsKey σ env (.out i) = true := fun i => by simp [St.keepsKey]
  refine ⟨{ g with at_ := fun k => if St.keepsKey σ env k then g.at_ k else none }, fun t v hv => ?_, fun k cs hk => ?_, h.fresh, h.base, ?_, h.defers, h.size, fun k b hb => ?_, h.nones⟩
  · obtain ⟨c, h1, h2⟩ := h.env t v (getA_keep ts hv)
    refine ⟨c, h1, h2.reAt rfl fun k b hn hb => ?_⟩
    have : St.keepsKey σ env k = true := by
      simp only [St.keepsKey, Bool.or_eq_true, List.any_eq_true]
      exact .inl (.inr ⟨(t, v), getA_mem hv, hn⟩)
    simp only [this, if_true]
    exact hb
  · rw [hbox] at hk
    by_cases hp : St.keepsKey σ env k = true
    · rw [if_pos hp] at hk
      refine (h.box k cs hk).mono (fun _ _ _ a b => ⟨a, b⟩) (fun b h1 h2 => ⟨by simp only [hp, if_true]; exact h1, h2, rfl⟩) (fun n hn => by simp only [keepsNum σ env k, hp, if_true]; exact hn) (fun i v c hv hfl hvr => hvr.reAt rfl fun k' b' hn hb' => ?_)
      have hnc : V.namesC k' v = true := by cases v <;> first | exact hfl.elim | exact hn
      have : St.keepsKey σ env k' = true := by
        simp only [St.keepsKey, Bool.or_eq_true, List.any_eq_true]
        exact .inr ⟨(k, cs), getA_mem hk, v, List.mem_of_getElem? hv, hnc⟩
      simp only [this, if_true]
      exact hb'
    · rw [if_neg hp] at hk; cases hk
  · have e := h.evol
    exact ⟨e.os, e.tape, e.output, e.size, e.free, e.other, e.arr, e.box, fun i b hb => by simp only [hout, if_true]; exact e.outs i b hb⟩
  · rw [hbox]
    simp only at hb
    rw [keepsBase]
    by_cases hp : St.keepsKey σ env k = true
    · rw [if_pos hp] at hb ⊢; exact h.live k b hb
    · rw [if_neg hp] at hb; cases hb
theorem Rep.keep (h : Rep g0 w0 g w σ a N) (ts : Option (List Nat)) : ∃ g', Rep g0 w0 g' w (σ.keep ts) a N := by
  cases ts with
  | none => exact ⟨g, h⟩
  | some ts => exact h.kept ts

/-! ### What is written in place is written no more -/
def Gh.frz (g : Gh) : Gh where
  own b := match g.own b with | .box (.mp t) => .arr (.tmp t) 0 | p => p
  at_ k := if k.isMp then none else g.at_ k
theorem frz_stable {b o : Nat} (hs : g.stable b o) : g.frz.stable b o := by
  simp only [Gh.stable, Gh.frz] at hs ⊢
  cases ho : g.own b with
  | box k => rw [ho] at hs; exact hs.elim
  | _ => rw [ho] at hs; exact hs
theorem frz_arr {b l : Nat} {s : Slot} (ho : g.own b = .arr s l) : g.frz.own b = .arr s l := by simp only [Gh.frz, ho]
theorem VRel.frzC {s : Slot} {v : V} {c : Value} (h : VRel g w s v c) (hf : v.cellP) : VRel g.frz w s v c := by
  have hst : ∀ b o c, g.stable b o → w.cell? (pl b o) = some c → g.frz.stable b o ∧ w.cell? (pl b o) = some c := fun b o c h1 h2 => ⟨frz_stable h1, h2⟩
  cases h with
  | val => exact .val _ _
  | arr _ _ _ _ h => exact .arr _ _ _ _ (h.mono hst)
  | own _ _ _ _ h hs =>
    refine .own _ _ _ _ (h.mono hst) ?_
    rcases hs with hs | hs | ⟨b, cap, cur, e, rfl, h1, h2, h3, h4, h5⟩
    · exact .inl hs
    · exact .inr (.inl hs)
    · exact .inr (.inr ⟨b, cap, cur, e, rfl, h1, h2, frz_arr h3, h4, h5⟩)
  | ptr _ _ _ _ h hk => exact .ptr _ _ _ _ (by simp only [Gh.frz, hk]; exact h) hk
  | _ => exact hf.elim
theorem VRel.frz {s : Slot} {v : V} {c : Value} (h : VRel g w s v c) (hv : v.res) : VRel g.frz w s v c := by
  have hst : ∀ b o c, g.stable b o → w.cell? (pl b o) = some c → g.frz.stable b o ∧ w.cell? (pl b o) = some c := fun b o c h1 h2 => ⟨frz_stable h1, h2⟩
  have flat : ∀ {s : Slot} {v : V} {c : Value}, VRel g w s v c → v.cellP → VRel g.frz w s v c := fun h hf => h.frzC hf
  cases h with
  | val => exact .val _ _
  | arr _ _ _ _ h => exact .arr _ _ _ _ (h.mono hst)
  | own _ _ _ _ h hs => exact flat (.own _ _ _ _ h hs) trivial
  | uni _ _ _ _ h => exact .uni _ _ _ _ (h.mono hst fun b ho => ⟨frz_arr ho, rfl⟩)
  | slen => exact .slen _ _ _ _
  | agg _ _ cs hl hf h => exact .agg _ _ _ hl hf (fun i v c hv hc => flat (h i v c hv hc) (hf i v hv))
  | sarr _ _ _ b f hl hm hf hc h => exact .sarr _ _ _ b f hl hm hf (fun i j r v hr hv => hst _ _ _ (hc i j r v hr hv).1 (hc i j r v hr hv).2) fun i j r v hr hv => flat (h i j r v hr hv) (hf i j r v hr hv)
  | _ => exact hv.elim
theorem Rep.frz (h : Rep g0 w0 g w σ a N) : Rep g0 w0 g.frz w ⟨[], σ.box.filter fun b => !b.1.isMp⟩ a N := by
  have hst : ∀ b o c, g.stable b o → w.cell? (pl b o) = some c → g.frz.stable b o ∧ w.cell? (pl b o) = some c := fun b o c h1 h2 => ⟨frz_stable h1, h2⟩
  have hbox : ∀ k, (⟨[], σ.box.filter fun b => !b.1.isMp⟩ : St).cells k = if (!k.isMp) then σ.cells k else none := fun k => getA_filter (fun k : Key => !k.isMp) σ.box k
  refine ⟨fun t v hv => (nomatch hv), fun k cs hk => ?_, fun b hb => ?_, h.base, ?_, h.defers, h.size, fun k b hb => ?_, fun b r l hu ho => ?_⟩
  · rw [hbox] at hk
    cases hm : k.isMp with
    | true => rw [hm] at hk; simp at hk
    | false =>
      rw [hm] at hk
      have hk : σ.cells k = some cs := by simpa using hk
      refine (h.box k cs hk).mono hst (fun b h1 h2 => ⟨by simp only [Gh.frz, hm]; exact h1, ?_, rfl⟩) (fun n hn => ?_) (fun i v c hv hfl hvr => hvr.frzC hfl)
      · simp only [Gh.frz, h2]
        cases k <;> first | rfl | cases hm
      · have : k.num.isMp = false := by cases k <;> first | rfl | cases hm
        simp only [Gh.frz, this]
        exact hn
  · simp only [Gh.frz, h.fresh b hb]
  · exact h.evol.trans h.base ⟨rfl, rfl, rfl, Nat.le_refl _, fun b _ q => ⟨rfl, by simp only [Gh.frz, q]⟩, fun b l q => ⟨rfl, by simp only [Gh.frz, q]⟩, fun b s l q => ⟨fun _ _ _ q => q, .inr (.inr ⟨s, l, frz_arr q, Nat.le_refl _⟩)⟩, fun b i q => by simp only [Gh.frz, q], fun i b q => q⟩
  · simp only [Gh.frz] at hb
    cases hm : k.isMp with
    | true => rw [hm] at hb; simp at hb
    | false =>
      rw [hm] at hb
      obtain ⟨cs, hc⟩ := h.live k b (by simpa using hb)
      have hkb : k.base = k := by cases k <;> first | rfl | cases hm
      rw [hkb] at hc ⊢
      exact ⟨cs, by rw [hbox, hm]; simpa using hc⟩
  · simp only [Gh.frz] at ho
    cases hob : g.own b with
    | arr s' l' =>
      rw [hob] at ho
      simp only at ho
      cases ho
      exact h.nones b _ _ hu hob
    | box k =>
      rw [hob] at ho
      cases k with
      | mp t => cases ho; have := Slot.under_root hu; simp [Slot.root] at this
      | _ => cases ho
    | free => rw [hob] at ho; cases ho
    | other => rw [hob] at ho; cases ho
theorem retOk_res {no : Nat} {v : V} (h : retOk no v = true) : v.res := by cases v <;> first | trivial | cases h

/-! ### Results -/
def resF (tmps : Array Value) : ResultVar → Sem Value
  | .tmp t => pure (tmps.getD t undef)
  | .cell a t => do loadVar t (← asAddr (tmps.getD a undef))
theorem results_eq (fn : Func) (tmps : Array Value) : results fn tmps = (do
    let vs ← fn.results.mapM (resF tmps)
    pure (if h : vs.size = 1 then vs[0] else .tuple vs)) := rfl
def slotR : ResultVar → Slot
  | .tmp t => .tmp t
  | .cell _ _ => .none
theorem resV_run {no : Nat} (hok : InfoOk P I) (h : Rep g0 w0 g w σ a N) {r : ResultVar} {v : V} (hv : resV I σ r = some v) (hro : retOk no v = true) : ∃ c, (resF a.tmps r).run P w = .ok c w ∧ VRel g.frz w (slotR (effR σ r)) v c ∧ ((∀ t, r ≠ .tmp t) → v.plain) := by
  suffices hh : ∃ c, (resF a.tmps r).run P w = .ok c w ∧ (VRel g.frz w (slotR (effR σ r)) v c ∨ VRel g w (slotR (effR σ r)) v c) ∧ ((∀ t, r ≠ .tmp t) → v.plain) by
    obtain ⟨c, h1, h2, h3⟩ := hh
    exact ⟨c, h1, h2.elim id (fun h => h.frz (retOk_res hro)), h3⟩
  cases r with
  | tmp t =>
    simp only [resV, Option.bind_eq_some_iff] at hv
    obtain ⟨v0, hv0, hv⟩ := hv
    obtain ⟨c, h1, h2⟩ := h.env t v0 hv0
    refine ⟨c, by simp [resF, Sem.run, pure, Array.getD_eq_getD_getElem?, h1], ?_, fun hn => absurd rfl (hn t)⟩
    cases v0 with
    | ms tt ct off len =>
      cases off with
      | succ => cases hv
      | zero =>
      simp only [frz] at hv
      split at hv
      · rename_i c' rows u hcs
        split at hv
        · rename_i hsame
          cases hv
          obtain rfl := sameCTs_eq _ _ hsame
          obtain ⟨b, cap, n, q1, q2, q3, q4, q5, rfl⟩ := ms_inv h2
          obtain ⟨cur, e0, p1, p2, p3, p4, p5, p6⟩ := ms_box h hcs q1 q2
          have hlen : (rows.take len).length = len := by simp; omega
          refine .inl (.uni _ _ _ _ (.inr ⟨b, cap, cur, e0, by rw [hlen, Nat.zero_mul], by rw [hlen]; exact q4, q5.1, by simp only [Gh.frz, p2, effR, hv0, slotR], p1, ⟨by rw [← p3.2, q5.2], p5⟩, fun i j c hi hj => ?_⟩))
          rw [hlen] at hi
          obtain ⟨v, z1, z2⟩ := p6 i j c (by omega) hj
          refine ⟨v, z1, ?_⟩
          have : (rows.take len).getD i [] = rows.getD i [] := by
            rw [List.getD_eq_getElem?_getD, List.getElem?_take, if_pos hi, ← List.getD_eq_getElem?_getD]
          rw [this]
          exact z2.mono fun b o c h1 h2 => ⟨frz_stable h1, h2⟩
        · cases hv
      · cases hv
    | _ => cases hv; exact .inr (by simp only [effR, hv0, slotR]; exact h2)
  | cell at_ t =>
    simp only [resV] at hv
    split at hv
    · rename_i k off n e1 e2 e3
      split at hv
      · rename_i cs hcs
        split at hv
        · rename_i hle
          cases hv
          obtain ⟨p, p1, p2⟩ := h.env at_ _ e1
          have hkm := ptr_key p2
          obtain ⟨b, hb, rfl⟩ := ptr_inv p2
          obtain ⟨b', cur, e, q1, q2, q3, q4, q6, q5⟩ := (h.box k cs hcs).cell hkm
          have : b' = b := Option.some.inj (q1.symm.trans hb)
          subst this
          have hcell : ∀ j, w.cell? (pl b' j) = cur[j]? := fun j => by simp [World.cell?, q3]
          have hlen : ((cur.toList.drop off).take n).length = n := by simp [q4]; omega
          refine ⟨.agg ((cur.toList.drop off).take n).toArray, ?_, .inr ?_, fun _ => trivial⟩
          · have hl := loadVar_many (w := w) hok e2 e3 (b := b') (q := off) hlen (fun j hj => by rw [hcell]; simp [List.getElem?_take, hj])
            simp only [resF, Array.getD_eq_getD_getElem?, p1, Option.getD_some]
            simpa [asAddr] using hl
          · refine .agg _ _ _ (by simp [q4]) (fun i v hv => ?_) (fun i v c hv hc => ?_)
            · simp only [List.getElem?_map, Option.map_eq_some_iff] at hv
              obtain ⟨u, hu, rfl⟩ := hv
              have := q6 (off + i) u (by simp only [List.getElem?_take, List.getElem?_drop] at hu; split at hu <;> simp_all)
              cases u <;> first | trivial | exact this.elim
            · simp only [List.getElem?_map, Option.map_eq_some_iff] at hv
              obtain ⟨u, hu, rfl⟩ := hv
              have hu' : cs[off + i]? = some u := by simp only [List.getElem?_take, List.getElem?_drop] at hu; split at hu <;> simp_all
              have hc' : cur[off + i]? = some c := by
                simp only [List.getElem?_toArray, List.getElem?_take, List.getElem?_drop] at hc
                split at hc
                · simpa using hc
                · cases hc
              refine (q5 _ u c hu' hc').viewed ?_
              have := q6 _ u hu'
              rintro vs rfl
              exact this
        · cases hv
      · cases hv
    · rename_i k off e1 e2 e3
      simp only [Option.map_eq_some_iff, St.cell] at hv
      obtain ⟨u, hu, rfl⟩ := hv
      cases hcs : σ.cells k with
      | none => rw [hcs] at hu; cases hu
      | some cs =>
        rw [hcs] at hu
        have hu' : cs[off]? = some u := hu
        obtain ⟨p, p1, p2⟩ := h.env at_ _ e1
        have hkm := ptr_key p2
        obtain ⟨b, hb, rfl⟩ := ptr_inv p2
        obtain ⟨b', cur, e, q1, q2, q3, q4, q6, q5⟩ := (h.box k cs hcs).cell hkm
        have : b' = b := Option.some.inj (q1.symm.trans hb)
        subst this
        have hlt := (List.getElem?_eq_some_iff.1 hu').1
        have hc : cur[off]? = some (cur[off]'(by omega)) := Array.getElem?_eq_getElem _
        have hcell : w.cell? (pl b' off) = some (cur[off]'(by omega)) := by simp only [World.cell?, q3]; simp
        have hfl := q6 _ u hu'
        have hnt : ∀ vs, u ≠ .tup vs := by rintro vs rfl; exact hfl
        refine ⟨cur[off]'(by omega), ?_, .inr ((q5 _ u _ hu' hc).viewed hnt), fun _ => V.view_plain hnt⟩
        have hl := loadVar_one (w := w) hok e2 hcell
        simp only [resF, Array.getD_eq_getD_getElem?, p1, Option.getD_some]
        simpa [asAddr] using hl
    · cases hv
theorem resVs_run {no : Nat} (hok : InfoOk P I) (h : Rep g0 w0 g w σ a N) : ∀ {rs : List ResultVar} {vs : List V}, resVs I σ rs = some vs → (∀ v ∈ vs, retOk no v = true) → ∃ cs : List Value, (rs.mapM (resF a.tmps)).run P w = .ok cs w ∧ cs.length = vs.length ∧ vs.length = rs.length ∧
    ∀ (i : Nat) (r : ResultVar) (v : V) (c : Value), rs[i]? = some r → vs[i]? = some v → cs[i]? = some c → VRel g.frz w (slotR (effR σ r)) v c ∧ ((∀ t, r ≠ .tmp t) → v.plain)
  | [], vs, hv, _ => by
    cases hv
    exact ⟨[], rfl, rfl, rfl, fun i r v c hr => by simp at hr⟩
  | r :: rs, vs, hv, hro => by
    simp only [resVs] at hv
    split at hv
    · rename_i v vs' h1 h2
      cases hv
      obtain ⟨c, r1, r2, r3⟩ := resV_run hok h h1 (hro _ (.head _))
      obtain ⟨cs, s1, s2, s3, s4⟩ := resVs_run hok h h2 (fun v hv => hro v (.tail _ hv))
      refine ⟨c :: cs, ?_, by simp [s2], by simp [s3], fun i x u d hx hu hd => ?_⟩
      · simp only [List.mapM_cons, Sem.run_bind, r1, Result.andThen, s1]
        rfl
      · cases i with
        | zero => simp at hx hu hd; subst hx; subst hu; subst hd; exact ⟨r2, r3⟩
        | succ i => exact s4 i x u d (by simpa using hx) (by simpa using hu) (by simpa using hd)
    · cases hv

def resIdx : List ResultVar → Nat → Nat → Option Nat
  | [], _, _ => none
  | .tmp u :: r, i, t => if u = t then some i else resIdx r (i + 1) t
  | .cell _ _ :: r, i, t => resIdx r (i + 1) t
theorem resIdx_get : ∀ (rs : List ResultVar) (j i t : Nat), (resTmps rs).Nodup → rs[i]? = some (.tmp t) → resIdx rs j t = some (j + i)
  | [], _, _, _, _, h => by simp at h
  | r :: rs, j, i, t, hn, h => by
    cases i with
    | zero =>
      simp at h
      subst h
      simp [resIdx]
    | succ i =>
      have h' : rs[i]? = some (.tmp t) := by simpa using h
      cases r with
      | tmp u =>
        simp only [resTmps, List.nodup_cons] at hn
        have hm : t ∈ resTmps rs := by
          clear hn
          induction rs generalizing i with
          | nil => simp at h'
          | cons x xs ih =>
            cases i with
            | zero => simp at h'; subst h'; exact .head _
            | succ i =>
              have := ih i (by simpa using h') (by simpa using h')
              cases x with
              | tmp => exact .tail _ this
              | cell => exact this
        have hne : u ≠ t := by rintro rfl; exact hn.1 hm
        simp only [resIdx, hne, if_false]
        rw [resIdx_get rs (j + 1) i t hn.2 h']
        congr 1; omega
      | cell =>
        simp only [resIdx]
        rw [resIdx_get rs (j + 1) i t hn h']
        congr 1; omega
/-- Where a result's room goes. -/
def resTo (rs : List ResultVar) : Slot → Slot
  | .tmp t => match resIdx rs 0 t with
    | some i => if rs.length = 1 then .ret else .sub .ret i
    | none => .tmp t
  | s => s
theorem resTo_root (rs : List ResultVar) (r : Slot) (h : (resTo rs r).root = .none) : r.root = .none := by
  cases r with
  | tmp t =>
    simp only [resTo] at h
    split at h
    · split at h <;> simp [Slot.root] at h
    · simp [Slot.root] at h
  | _ => exact h
/-- What is left behind a call. -/
def Post (g0 : Gh) (w0 : World) (no : Nat) (r : R) (v : Value) (w' : World) : Prop :=
  ∃ g', VRel g' w' .ret r.1 v ∧ r.1.back no ∧ r.2.length = no ∧ (∀ (i : Nat) (cs : List V), r.2[i]? = some cs → BoxRel g' w' (.out i) cs ∧ ∀ v ∈ cs, v.flat) ∧ Evol g0 w0 g' w' ∧ (∀ b, w'.heap.size ≤ b → g'.own b = .free) ∧ ∀ b s l, Slot.under .none s → g'.own b ≠ .arr s l
theorem outsOf_spec {σ : St} : ∀ {n : Nat} {outs : List (List V)}, outsOf σ n = some outs → outs.length = n ∧ ∀ (i : Nat) (cs : List V), outs[i]? = some cs → σ.cells (.out i) = some cs
  | 0, outs, h => by cases h; exact ⟨rfl, fun i cs hi => by simp at hi⟩
  | n + 1, outs, h => by
    simp only [outsOf] at h
    split at h
    · rename_i l cs h1 h2
      cases h
      obtain ⟨e1, e2⟩ := outsOf_spec h1
      refine ⟨by simp [e1], fun i cs' hi => ?_⟩
      by_cases hlt : i < l.length
      · rw [List.getElem?_append_left hlt] at hi
        exact e2 i cs' hi
      · rw [List.getElem?_append_right (by omega)] at hi
        have : i - l.length = 0 := by
          rcases Nat.eq_zero_or_pos (i - l.length) with h | h
          · exact h
          · rw [List.getElem?_eq_none (by simp; omega)] at hi; cases hi
        rw [this] at hi
        simp at hi
        subst hi
        have : i = n := by omega
        subst this
        exact h2
    · cases h
theorem fin_sound (hok : InfoOk P I) (h : Rep g0 w0 g w σ a N) {fn : Func} {no : Nat} {r : R} (hr : fin I fn no σ = some r) : ∃ v, (results fn a.tmps).run P w = .ok v w ∧ Post g0 w0 no r v w := by
  unfold fin at hr
  split at hr
  · rename_i vs outs h1 h2
    split at hr
    · rename_i hc
      obtain ⟨c1, c0, c2, c3⟩ := hc
      obtain ⟨cs, m1, m2, m3, m4⟩ := resVs_run hok h h1 (fun v hv => List.all_eq_true.1 c1 v hv)
      obtain ⟨o1, o2⟩ := outsOf_spec h2
      simp only [Option.some.injEq] at hr
      let f := resTo (fn.results.toList.map (effR σ))
      have hrun : (fn.results.mapM (resF a.tmps)).run P w = .ok cs.toArray w := by
        rw [Array.mapM_eq_mapM_toList, Sem.run_map, m1]
        rfl
      have h1' : Rep g0 w0 g.frz w ⟨[], σ.box.filter fun b => !b.1.isMp⟩ a N := h.frz
      have h2' : Rep g0 w0 (g.frz.ren f) w ⟨[], σ.box.filter fun b => !b.1.isMp⟩ a N := h1'.rename f (resTo_root _) (fun t v hv => by cases hv) (fun k cs o v hk hv => by
        have q6 := (h1'.box k cs hk).flat
        have := q6 o v hv
        cases v <;> first | trivial | rfl | exact this.elim)
      have hval : ∀ (i : Nat) (v : V) (c : Value), vs[i]? = some v → cs[i]? = some c → VRel (g.frz.ren f) w (if fn.results.toList.length = 1 then .ret else .sub .ret i) v c := by
        intro i v c hv hcc
        have hi : i < fn.results.toList.length := by have := (List.getElem?_eq_some_iff.1 hv).1; omega
        obtain ⟨e1, e2⟩ := m4 i _ v c (List.getElem?_eq_getElem hi) hv hcc
        by_cases hp : v.plain
        · exact (e1.plain_ren f hp h1'.nones).slot hp
        · have hok' := List.all_eq_true.1 c1 v (List.mem_of_getElem? hv)
          cases v with
          | own ct xs =>
            cases hx : fn.results.toList[i] with
            | tmp t =>
              rw [hx] at e1
              refine e1.own_ren f ?_
              obtain ⟨u, hu⟩ : ∃ u, effR σ (.tmp t) = .tmp u := by simp only [effR]; split <;> exact ⟨_, rfl⟩
              have := resIdx_get (fn.results.toList.map (effR σ)) 0 i u c3 (by rw [List.getElem?_map, List.getElem?_eq_getElem hi, hx, Option.map_some, hu])
              simp only [f, hu, slotR, resTo, this, Nat.zero_add, List.length_map]
            | cell => exact absurd (e2 (by simp [hx])) hp
          | uni ct xs =>
            cases hx : fn.results.toList[i] with
            | tmp t =>
              rw [hx] at e1
              refine e1.uni_ren f ?_
              obtain ⟨u, hu⟩ : ∃ u, effR σ (.tmp t) = .tmp u := by simp only [effR]; split <;> exact ⟨_, rfl⟩
              have := resIdx_get (fn.results.toList.map (effR σ)) 0 i u c3 (by rw [List.getElem?_map, List.getElem?_eq_getElem hi, hx, Option.map_some, hu])
              simp only [f, hu, slotR, resTo, this, Nat.zero_add, List.length_map]
            | cell => exact absurd (e2 (by simp [hx])) hp
          | tup => cases hok'
          | _ => exact absurd trivial hp
      have hres : ∀ v ∈ vs, v.res := by
        intro v hv
        have := List.all_eq_true.1 c1 v hv
        cases v <;> first | trivial | cases this
      have hbox : ∀ (i : Nat) (cs : List V), outs[i]? = some cs → BoxRel (g.frz.ren f) w (.out i) cs ∧ ∀ v ∈ cs, v.flat := fun i cs hi => ⟨h2'.box _ cs (by rw [show (⟨[], σ.box.filter fun b => !b.1.isMp⟩ : St).cells (.out i) = if (!(Key.out i).isMp) then σ.cells (.out i) else none from getA_filter (fun k : Key => !k.isMp) σ.box _]; exact o2 i cs hi), fun v hv => by have hck := List.all_eq_true.1 (List.all_eq_true.1 c2 cs (List.mem_of_getElem? hi)) v hv; (cases v <;> first | trivial | cases hck)⟩
      have fin : ∀ (v : V) (c : Value), r = (v, outs) → (results fn a.tmps).run P w = .ok c w → VRel (g.frz.ren f) w .ret v c → v.back no → ∃ v, (results fn a.tmps).run P w = .ok v w ∧ Post g0 w0 no r v w := by
        intro v c e hrr hv hb
        subst e
        exact ⟨c, hrr, g.frz.ren f, hv, hb, o1, hbox, h2'.evol, h2'.fresh, h2'.nones⟩
      have hmany : ∀ (hne : cs.length ≠ 1), (results fn a.tmps).run P w = .ok (.tuple cs.toArray) w := by
        intro hne
        rw [results_eq, Sem.run_bind, hrun]
        simp [Result.andThen, hne, Sem.run, pure]
      match hvs : vs, hcs : cs, m2 with
      | [v], [c], _ =>
        refine fin v c (by rw [← hr]) ?_ ?_ ?_
        · rw [results_eq, Sem.run_bind, hrun]
          simp [Result.andThen, Sem.run, pure]
        · have := hval 0 v c rfl rfl
          rwa [if_pos (by simpa using m3.symm)] at this
        · have := List.all_eq_true.1 c1 v (.head _)
          cases v with
          | agg us => exact fun u hu => by have hck := List.all_eq_true.1 this u hu; (cases u <;> first | trivial | cases hck)
          | sarr n rows =>
            refine fun rr hrr u hu => ?_
            have hck := List.all_eq_true.1 (List.all_eq_true.1 this rr hrr) u hu
            rw [Bool.or_eq_true] at hck
            rcases hck with hck | hck
            · left; cases u <;> first | trivial | cases hck
            · right
              cases u with
              | ptr k off =>
                cases k with
                | out i => exact ⟨i, off, rfl, by simpa [V.outPtr] using hck⟩
                | _ => cases hck
              | _ => cases hck
          | _ => first | trivial | cases this
      | [], [], _ =>
        refine fin (.tup []) (.tuple #[]) (by rw [← hr]) (hmany (by simp)) ?_ (fun u hu => by cases hu)
        exact .tup _ _ _ rfl (fun i v hv => by simp at hv) (fun i v c hv => by simp at hv)
      | v1 :: v2 :: vs', c1' :: c2' :: cs', hl =>
        refine fin (.tup (v1 :: v2 :: vs')) _ (by rw [← hr]) (hmany (by simp)) ?_ (fun u hu => by
          have := List.all_eq_true.1 c1 u hu
          have hns := List.all_eq_true.1 (c0.resolve_left (by simp)) u hu
          cases u with
          | agg us => exact fun u hu => by have hck := List.all_eq_true.1 this u hu; (cases u <;> first | trivial | cases hck)
          | sarr => cases hns
          | _ => first | trivial | cases this)
        refine .tup _ _ _ (by simpa using hl.symm) (fun i v hv => hres v (List.mem_of_getElem? hv)) (fun i v c hv hc => ?_)
        have := hval i v c hv (by simpa using hc)
        rwa [if_neg (by rw [← m3]; simp)] at this
    · cases hr
  · cases hr
end
end Go.Proofs.Ytkcopbnaleiocaa.Ev
