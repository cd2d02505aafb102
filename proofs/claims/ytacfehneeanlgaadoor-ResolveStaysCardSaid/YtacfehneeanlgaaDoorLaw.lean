/- The evaluator is right: what it computes, the model's run comes to. From the evaluator's answer to a law's run: it returns true, and what was there is as it was. -/
import Derived.Test.YtacfehneeanlgaaDoorOpJ
import Derived.Scope
namespace Go.Proofs.YtacfehneeanlgaaDoor.Ev
open Go
set_option linter.unusedVariables false
set_option linter.unusedSimpArgs false
section
variable {P : Program} {I : Info} {g0 g : Gh} {w0 w : World} {σ τ : St} {a : Act} {N : Nat} {o : Oper}

inductive Its : List T → List Item → Prop
  | nil : Its [] []
  | code (c : Code) (k : List T) (k' : List Item) (h : Its k k') : Its (.code c :: k) (.code c :: k')
  | blk (id : Nat) (k : List T) (k' : List Item) (h : Its k k') : Its (.blk id :: k) (.inBlock id :: k')
  | lp (c : Code) (k : List T) (k' : List Item) (h : Its k k') : Its (.lp c :: k) (.inLoop c :: k')
  | scp (c : Code) (k : List T) (k' : List Item) (h : Its k k') : Its (.scp c :: k) (.inScope c :: k')
theorem Its.exit {id : Nat} {k : List T} {k' : List Item} (h : Its k k') : ∀ {r : List T}, exitT id k = some r → ∃ r', exitTo id k' = some r' ∧ Its r r' := by
  induction h with
  | nil => intro r hr; cases hr
  | code c k k' h ih => intro r hr; exact ih hr
  | blk id' k k' h ih =>
    intro r hr
    simp only [exitT] at hr
    simp only [exitTo]
    split
    · rename_i e
      rw [if_pos e] at hr
      cases hr
      exact ⟨k', rfl, h⟩
    · rename_i e
      rw [if_neg e] at hr
      exact ih hr
  | lp c k k' h ih => intro r hr; exact ih hr
  | scp c k k' h ih => intro r hr; exact ih hr

/-- What is known of the calls below a depth. -/
def Below (P : Program) (I : Info) (n : Nat) : Prop := ∀ m, m < n → ∀ (f : Nat) (fd : Func) (c : Code) (vs : List V) (outs : List (List V)) (r : R), I.func f = some fd → fd.body = some c → fd.params.size = vs.length → fd.nfree = 0 → exec I m (f, fd, outs.length) [.code c] (initSt vs outs) = some r → Contract P f vs outs r
structure ExtOk (P : Program) (I : Info) : Prop where
  ext : ∀ (f : Nat) (e : List V → List (List V) → Option R) (vs : List V) (outs : List (List V)) (r : R), I.ext f = some e → I.pre f vs outs = true → e vs outs = some r → Contract P f vs outs r
  entry : ∀ (f : Nat) (e : List V → Option Value) (vs : List V) (c : Value), I.entry f = some e → e vs = some c → Entry P f vs c
  touch : ∀ (f : Nat) (l : List Nat), I.touch f = some l → ∃ e, I.ext f = some e ∧ ∀ (vs os : List V) (r : R), e vs [os] = some r → ∃ cs, r.2 = [cs] ∧ cs.length = os.length ∧ ∀ i, i ∉ l → cs[i]? = os[i]?
theorem setA_setA {α β : Type} [DecidableEq α] : ∀ (l : List (α × β)) (a : α) (x y : β), setA (setA l a x) a y = setA l a y
  | [], a, x, y => by simp [setA]
  | (c, z) :: r, a, x, y => by
    simp only [setA]
    by_cases e : c = a
    · subst e; simp [setA]
    · simp only [e, if_false, setA]
      rw [setA_setA r a x y]
theorem getA_setA_self {α β : Type} [DecidableEq α] : ∀ (l : List (α × β)) (a : α) (x : β), getA (setA l a x) a = some x
  | [], a, x => by simp [setA, getA]
  | (c, z) :: r, a, x => by
    simp only [setA]
    by_cases e : c = a
    · subst e; simp [getA]
    · simp only [e, if_false, getA]
      exact getA_setA_self r a x
theorem touch_puts (k : Key) (cs : List V) : ∀ (l : List Nat) (τ : St) (cur : List V), τ.cells k = some cur → cs.length = cur.length → (∀ i, i ∉ l → cs[i]? = cur[i]?) → τ.puts (l.filterMap fun i => (cs[i]?).map (W.cell k i)) = τ.puts [.box k cs]
  | [], τ, cur, h1, h2, h3 => by
    have : cs = cur := List.ext_getElem? fun i => h3 i (by simp)
    subst this
    have h1 : getA τ.box k = some cs := h1
    show τ = { τ with box := setA τ.box k cs }
    rw [setA_same _ _ _ h1]
  | i :: l, τ, cur, h1, h2, h3 => by
    rw [List.filterMap_cons]
    cases hi : cs[i]? with
    | none =>
      refine touch_puts k cs l τ cur h1 h2 fun j hj => ?_
      by_cases e : j = i
      · subst e
        rw [hi]
        have := List.getElem?_eq_none_iff.1 hi
        exact (List.getElem?_eq_none (by omega)).symm
      · exact h3 j (by simp [e, hj])
    | some v =>
      have hlt := (List.getElem?_eq_some_iff.1 hi).1
      have hput : τ.put (.cell k i v) = { τ with box := setA τ.box k (cur.set i v) } := by
        simp only [St.put, h1]
      have hc : (τ.put (.cell k i v)).cells k = some (cur.set i v) := by
        rw [hput]; exact getA_setA_self _ _ _
      have := touch_puts k cs l (τ.put (.cell k i v)) (cur.set i v) hc (by rw [List.length_set]; exact h2) fun j hj => by
        by_cases e : j = i
        · subst e
          rw [hi, List.getElem?_set_self (by omega)]
        · rw [List.getElem?_set_ne (fun h => e h.symm)]
          exact h3 j (by simp [e, hj])
      show (τ.put (.cell k i v)).puts _ = _
      rw [this]
      show (τ.put (.cell k i v)).put (.box k cs) = τ.put (.box k cs)
      rw [hput]
      show St.mk τ.env (setA (setA τ.box k (cur.set i v)) k cs) = St.mk τ.env (setA τ.box k cs)
      rw [setA_setA]
theorem touchW_puts {l : Option (List Nat)} {ks : List Key} {outs new : List (List V)} (hl : ∀ l', l = some l' → ∀ os, outs = [os] → ∃ cs, new = [cs] ∧ cs.length = os.length ∧ ∀ i, i ∉ l' → cs[i]? = os[i]?) (τ : St)
    (hc : ∀ (i : Nat) (k : Key) (cs : List V), ks[i]? = some k → outs[i]? = some cs → τ.cells k = some cs) : τ.puts (touchW l ks outs new) = τ.puts (boxW ks new) := by
  unfold touchW
  split
  · rename_i l k os cs
    obtain ⟨cs', e, h1, h2⟩ := hl l rfl os rfl
    cases e
    exact touch_puts k cs l τ os (hc 0 k os rfl rfl) h1 h2
  · rfl

theorem opds_some {k : List V → M CallArgs} {r : CallArgs} : ∀ (xs : List Operand) (acc : List V), (opds xs acc k).run σ = some r → ∃ vs, (k vs).run σ = some r
  | [], acc, h => ⟨_, h⟩
  | .tmp t :: xs, acc, h => by
    simp only [opds, M.run] at h
    split at h
    · exact opds_some xs _ h
    · cases h
  | .const _ :: xs, acc, h => opds_some xs _ h
  | .func _ :: xs, acc, h => opds_some xs _ h
  | .global _ :: _, acc, h => by cases h
theorem allCells_some {k : List (List V) → M CallArgs} {r : CallArgs} : ∀ (ks : List Key) (acc : List (List V)), (allCells ks acc k).run σ = some r → ∃ vs, (k vs).run σ = some r
  | [], acc, h => ⟨_, h⟩
  | b :: ks, acc, h => by
    simp only [allCells, M.run] at h
    split at h
    · exact allCells_some ks _ h
    · cases h
theorem callM_fst {f : Nat} {xs : List Operand} {r : CallArgs} (h : (callM f xs).run σ = some r) : r.1 = f := by
  unfold callM at h
  obtain ⟨vs, h⟩ := opds_some xs [] h
  split at h
  · obtain ⟨outs, h⟩ := allCells_some _ [] h
    by_cases hfo : (outs.all fun x => x.all cellOk) = true
    · rw [if_pos hfo] at h; cases h; rfl
    · rw [if_neg hfo] at h; cases h
  · cases h
theorem exec_op (hok : InfoOk P I) (hext : ExtOk P I) {n : Nat} (hB : Below P I (n + 1)) {fn : Nat × Func × Nat} {id : Nat} {ops : List Oper} {i : Nat} {rest : List Nat} {fp : Option (List (Nat × List Loc × List Loc))} {k : List T} {r : R}
    (h : exec I (n + 1) fn (.ops id ops (i :: rest) fp :: k) σ = some r) : ∃ rs ws, OpRun P I ops fn.2.1.ntmps σ i rs ws ∧ exec I n fn (.ops id ops rest (note fp i rs ws) :: k) (σ.puts ws) = some r := by
  simp only [exec] at h
  split at h
  · cases h
  rename_i o ho
  split at h
  · cases h
  rename_i hf
  have hf : fits fn.2.1.ntmps o = true := by simpa using hf
  have body : ∀ (g : Option (Nat × Bool)), Going ops σ o g → (match o.op with
        | .call { callee := .value x, args, .. } => match calleeOf σ x with
          | none => none
          | some f => match (callM f args.toList).run σ with
            | none => none
            | some (f, vs, ks, outs, ws) => match I.entry f with
              | some e => match e vs, outs with
                | some c, [] => exec I n fn (.ops id ops rest (note fp i (guardRead g ++ (calleeReads x ++ (callM f args.toList).reads σ)) (ws ++ dstW o.dst (.val c))) :: k) (σ.puts (ws ++ dstW o.dst (.val c)))
                | _, _ => none
              | none => match I.pre f vs outs with
                | true => (match I.func f with
                | some fd => match fd.body with
                  | some c => if (fd.name == "runtime.NumGoroutine") = false then
                      match I.ext f with
                      | some e => e vs outs
                      | none => if fd.params.size = vs.length ∧ fd.nfree = 0 then exec I n (f, fd, outs.length) [.code c] (initSt vs outs) else none
                    else none
                  | none => none
                | none => none).bind fun (r : R) =>
                exec I n fn (.ops id ops rest (note fp i (guardRead g ++ (calleeReads x ++ (callM f args.toList).reads σ)) (ws ++ (touchW (I.touch f) ks outs r.2 ++ dstW o.dst (backV ks r.1)))) :: k) (σ.puts (ws ++ (touchW (I.touch f) ks outs r.2 ++ dstW o.dst (backV ks r.1))))
                | false => none
        | _ => (opM I ops o).runK σ fun p => match p.1 with
          | true => exec I n fn (.ops id ops rest (note fp i (guardRead g ++ (opM I ops o).reads σ) p.2) :: k) (σ.puts p.2)
          | false => none) = some r → ∃ rs ws, OpRun P I ops fn.2.1.ntmps σ i rs ws ∧ exec I n fn (.ops id ops rest (note fp i rs ws) :: k) (σ.puts ws) = some r := by
    intro g hg h
    split at h
    · rename_i x args ats hop
      split at h
      · cases h
      rename_i f hcal
      split at h
      · cases h
      rename_i f' vs ks outs ws hrun
      split at h
      · rename_i e hent
        split at h
        · rename_i c hec
          have hff : f' = f := callM_fst hrun
          subst hff
          exact ⟨_, _, .go o g _ _ ho hf hg (.entry x args ats f' vs ks ws c hop hcal hrun (hext.entry f' e vs c hent hec)), h⟩
        · cases h
      split at h
      case h_2 => cases h
      rename_i hpre
      rw [Option.bind_eq_some_iff] at h
      obtain ⟨r1, hr1, h⟩ := h
      split at hr1
      · rename_i fd hfd
        split at hr1
        · rename_i c hc
          split at hr1
          · rename_i hname
            have hcon : Contract P f' vs outs r1 := by
              split at hr1
              · rename_i e he
                exact hext.ext f' e vs outs r1 he hpre hr1
              · split at hr1
                · rename_i hp
                  exact hB n (Nat.lt_succ_self n) f' fd c vs outs r1 hfd hc hp.1 hp.2 hr1
                · cases hr1
            have hff : f' = f := callM_fst hrun
            subst hff
            refine ⟨_, _, .go o g _ _ ho hf hg (.call x args ats f' f' fd vs ks outs ws r1 hop hcal hrun (hok.func hfd) (by rw [hc]; rfl) hname hcon (touchW (I.touch f') ks outs r1.2) (touchW_puts fun l' hl' os hos => ?_)), h⟩
            obtain ⟨e, he, hx⟩ := hext.touch f' l' hl'
            subst hos
            split at hr1
            · rename_i e' he'
              cases he.symm.trans he'
              exact hx vs os r1 hr1
            · rename_i he'
              cases he.symm.trans he'
          · cases hr1
        · cases hr1
      · cases hr1
    · rw [M.runK_eq, Option.bind_eq_some_iff] at h
      obtain ⟨⟨ok, ws⟩, hrun, h⟩ := h
      cases ok with
      | false => cases h
      | true => exact ⟨_, _, .go o g _ _ ho hf hg (.plain ws hrun), h⟩
  split at h
  · rename_i hgu
    exact body none (.inl ⟨hgu, rfl⟩) h
  · rename_i q hgu
    have hs : o.guard.isSome = true := by rw [hgu]; rfl
    split at h
    · cases h
    rename_i t want hg
    split at h
    · rename_i b hv
      have hkn : σ.known (.tmp t) b = σ := known_same fun t' e => by cases e; exact hv
      cases b with
      | true =>
        simp only [hkn] at h
        cases want with
        | true => rw [if_pos rfl] at h; exact body (some (t, true)) (.inr ⟨t, true, rfl, hs, hg, hv⟩) h
        | false => rw [if_neg (by simp)] at h; exact ⟨_, _, .skip o t false ho hf hs hg _ hv (by simp), h⟩
      | false =>
        simp only [hkn] at h
        cases want with
        | true => rw [if_pos rfl] at h; exact ⟨_, _, .skip o t true ho hf hs hg _ hv (by simp), h⟩
        | false => rw [if_neg (by simp)] at h; exact body (some (t, false)) (.inr ⟨t, false, rfl, hs, hg, hv⟩) h
    · rename_i v _ hv
      cases hb : isBool v with
      | true => rw [hb] at h; cases h
      | false =>
        rw [hb] at h
        exact ⟨_, _, .skip o t want ho hf hs hg v hv (by rintro rfl; cases hb), h⟩
    · cases h
theorem Below.mono {n m : Nat} (h : Below P I n) (hm : m ≤ n) : Below P I m := fun j hj => h j (by omega)
theorem exec_ops (hok : InfoOk P I) (hext : ExtOk P I) {n : Nat} (hB : Below P I n) {fn : Nat × Func × Nat} {id : Nat} {ops : List Oper} {k : List T} {r : R} : ∀ (rest : List Nat) (m : Nat) (σ : St) (fp : Option (List (Nat × List Loc × List Loc))), m ≤ n →
    exec I m fn (.ops id ops rest fp :: k) σ = some r → ∃ (tr : List Ent) (m' : Nat), m' < m ∧ tr.map (·.1) = rest ∧ Trace P I ops fn.2.1.ntmps σ tr ∧
      (∀ l, fp = some l → ∃ l', fpOk ops l' = true ∧ (∀ x ∈ l, x ∈ l') ∧ ∀ e ∈ tr, (e.1, e.2.1, e.2.2.map W.loc) ∈ l') ∧ exec I m' fn k ((σ.puts (allW tr)).keep (I.keep fn.1 id)) = some r := by
  intro rest
  induction rest with
  | nil =>
    intro m σ fp hm h
    cases m with
    | zero => cases h
    | succ m =>
      simp only [exec] at h
      refine ⟨[], m, Nat.lt_succ_self m, rfl, .nil σ, ?_, ?_⟩
      · rintro l rfl
        simp only at h
        cases hf : fpOk ops l with
        | false => rw [hf] at h; cases h
        | true => exact ⟨l, hf, fun x hx => hx, fun e he => by cases he⟩
      · cases fp with
        | none => exact h
        | some l =>
          simp only at h
          cases hf : fpOk ops l with
          | false => rw [hf] at h; cases h
          | true => rw [hf] at h; exact h
  | cons i rest ih =>
    intro m σ fp hm h
    cases m with
    | zero => cases h
    | succ m =>
      obtain ⟨rs, ws, hop, h⟩ := exec_op hok hext (hB.mono hm) h
      obtain ⟨tr, m', h1, h2, h3, h4, h5⟩ := ih m (σ.puts ws) (note fp i rs ws) (by omega) h
      refine ⟨(i, rs, ws) :: tr, m', by omega, by rw [List.map_cons, h2], .cons σ i rs ws tr hop h3, ?_, ?_⟩
      · rintro l rfl
        obtain ⟨l', e1, e2, e3⟩ := h4 _ rfl
        refine ⟨l', e1, fun x hx => e2 x (.tail _ hx), fun e he => ?_⟩
        rcases List.mem_cons.1 he with rfl | he
        · exact e2 _ (.head _)
        · exact e3 e he
      · simp only [allW, List.flatMap_cons, St.puts_append] at h5 ⊢
        exact h5
theorem fp_apart {ops : List Oper} {tr : List Ent} {l : List (Nat × List Loc × List Loc)} (h : fpOk ops l = true) (hm : ∀ e ∈ tr, (e.1, e.2.1, e.2.2.map W.loc) ∈ l) : Apart ops tr ∧ edgesOk ops = true := by
  simp only [fpOk, Bool.and_eq_true, List.all_eq_true] at h
  refine ⟨fun x hx y hy hlt hcl => ?_, h.1⟩
  have := h.2 _ (hm y hy) _ (hm x hx)
  simp only [hlt, decide_true, Bool.not_true, Bool.false_or, Bool.or_eq_true, Bool.not_eq_true', List.contains_iff_mem] at this
  rcases this with this | this
  · simp only [Bool.or_eq_false_iff] at this
    obtain ⟨⟨a1, a2⟩, a3⟩ := this
    rcases hcl with hc | hc | hc
    · rw [a1] at hc; cases hc
    · rw [a2] at hc; cases hc
    · rw [a3] at hc; cases hc
  · exact this

/-- A run leaves the call. -/
def Leaves (P : Program) (m : Machine) (cs : List Frame) (f : Nat) (g0 : Gh) (w0 : World) (no : Nat) (r : R) : Prop :=
  ∃ v w' fr, Steps P m (lone fr cs w') ∧ fr.fn = f ∧ fr.leaving P w' (.returned v) ∧ Post g0 w0 no r v w'
theorem Leaves.of_steps {m m1 : Machine} {cs : List Frame} {f no : Nat} {r : R} (h : Steps P m m1) (h' : Leaves P m1 cs f g0 w0 no r) : Leaves P m cs f g0 w0 no r := by
  obtain ⟨v, w', fr, h1, h2⟩ := h'
  exact ⟨v, w', fr, h.trans h1, h2⟩
theorem opd_eval (h : Rep g0 w0 g w σ a N) {x : Operand} {c : Value} (hx : σ.opd x = some (.val c)) : a.eval x = c := by
  cases x with
  | tmp t =>
    obtain ⟨c', h1, h2⟩ := h.env t _ hx
    rw [val_inv h2] at h1
    simp [Act.eval, Array.getD_eq_getD_getElem?, h1]
  | const v => cases hx; rfl
  | _ => cases hx
theorem exec_sound (hok : InfoOk P I) (hext : ExtOk P I) : ∀ (n : Nat), Below P I n → ∀ (m : Nat), m ≤ n → ∀ {f : Nat} {fd : Func} {no : Nat} {items : List T} {its : List Item} {σ : St} {r : R} {g : Gh} {w : World} {a : Act} {b : Frame} {cs : List Frame},
    P.funcs[f]? = some fd → b.fn = f → b.kind = .normal → Its items its → Rep g0 w0 g w σ a fd.ntmps → exec I m (f, fd, no) items σ = some r → Leaves P (lone (b.at a its) cs w) cs f g0 w0 no r := by
  intro n hB m
  induction m using Nat.strongRecOn with
  | ind m ih =>
    intro hm f fd no items its σ r g w a b cs hfd hbf hbk hI hR h
    cases m with
    | zero => cases h
    | succ m =>
    have ih' := fun {items its σ r g w a} => @ih m (Nat.lt_succ_self m) (by omega) f fd no items its σ r g w a b cs hfd hbf hbk
    have leave : ∀ (its : List Item), fin I fd no σ = some r → Leaves P (lone { b.at a its with mode := .returning } cs w) cs f g0 w0 no r := by
      intro its h
      obtain ⟨v, h1, h2⟩ := fin_sound hok hR h
      exact ⟨v, w, _, .refl P _, hbf, ⟨rfl, hR.defers, hbk, fd, by simpa [Frame.at, hbf] using hfd, h1⟩, h2⟩
    cases hI with
    | nil => exact .of_steps (.one step_end) (leave [] h)
    | blk id k k' hI => exact .of_steps (.one step_inBlock) (ih' hI hR h)
    | scp c k k' hI => exact .of_steps (.one step_inScope) (ih' hI hR h)
    | lp c k k' hI => exact .of_steps (.one step_inLoop) (ih' (.code c _ _ (.lp c _ _ hI)) hR h)
    | code c k k' hI =>
      cases c with
      | skip => exact .of_steps (.one step_skip) (ih' hI hR h)
      | label l => exact .of_steps (.one step_label) (ih' hI hR h)
      | seq x y => exact .of_steps (.one step_seq) (ih' (.code x _ _ (.code y _ _ hI)) hR h)
      | block id c => exact .of_steps (.one step_block) (ih' (.code c _ _ (.blk id _ _ hI)) hR h)
      | loop c => exact .of_steps (.one step_loop) (ih' (.code c _ _ (.lp c _ _ hI)) hR h)
      | scope c => exact .of_steps (.one step_scope) (ih' (.code c _ _ (.scp c _ _ hI)) hR h)
      | ret => exact .of_steps (.one step_ret) (leave _ h)
      | exit id =>
        simp only [exec] at h
        split at h
        · rename_i k2 hk2
          obtain ⟨k2', e1, e2⟩ := hI.exit hk2
          exact .of_steps (.one (step_exit e1)) (ih' e2 hR h)
        · cases h
      | cond x c1 c2 =>
        simp only [exec] at h
        split at h
        · rename_i v hv
          have he := opd_eval hR hv
          have hkn : σ.known x v = σ := known_same fun t e => by subst e; exact hv
          cases v with
          | true => 
            simp only [hkn] at h
            refine .of_steps (.one (step_cond he)) ?_
            exact ih' (.code c1 _ _ hI) hR h
          | false =>
            simp only [hkn] at h
            refine .of_steps (.one (step_cond he)) ?_
            exact ih' (.code c2 _ _ hI) hR h
        · cases h
      | region id ops draw =>
        simp only [exec] at h
        obtain ⟨tr, m', h1, h2, h3, h4, h5⟩ := exec_ops hok hext hB _ m σ _ (by omega) h
        have hreg : (Code.region id ops draw).wp P (fun e a' w' => e = .normal ∧ ∃ g', Rep g0 w0 g' w' (σ.puts (allW tr)) a' fd.ntmps) a w := by
          refine region_sound hok hR h2 h3 (fun hd => ?_) (fun g' a' w' h' => ⟨rfl, g', h'⟩)
          subst hd
          obtain ⟨l', e1, e2, e3⟩ := h4 [] rfl
          exact fp_apart e1 e3
        obtain ⟨e, a', w', ⟨rfl, g', hR'⟩, harr⟩ := hreg b k' cs
        obtain ⟨g2, hR2⟩ := hR'.keep (I.keep f id)
        refine .of_steps harr ?_
        exact @ih m' (by omega) (by omega) f fd no k k' _ r g2 w' a' b cs hfd hbf hbk hI hR2 h5
      | _ => cases h

theorem getA_initEnv : ∀ (vs : List V) (i t : Nat), getA (initEnv i vs) t = if i ≤ t then vs[t - i]? else none
  | [], i, t => by simp [initEnv, getA]
  | v :: vs, i, t => by
    simp only [initEnv, getA, getA_initEnv vs (i + 1) t]
    by_cases e : i = t
    · subst e; simp
    · by_cases h : i ≤ t
      · have h1 : i + 1 ≤ t := by omega
        have h2 : t - i = (t - (i + 1)) + 1 := by omega
        simp [e, h, h1, h2]
      · have h1 : ¬ i + 1 ≤ t := by omega
        simp [e, h, h1]
theorem getA_initBox : ∀ (vs : List (List V)) (i t : Nat), getA (initBox i vs) (.out t) = if i ≤ t then vs[t - i]? else none
  | [], i, t => by simp [initBox, getA]
  | v :: vs, i, t => by
    simp only [initBox, getA, getA_initBox vs (i + 1) t, Key.out.injEq]
    by_cases e : i = t
    · subst e; simp
    · by_cases h : i ≤ t
      · have h1 : i + 1 ≤ t := by omega
        have h2 : t - i = (t - (i + 1)) + 1 := by omega
        simp [e, h, h1, h2]
      · have h1 : ¬ i + 1 ≤ t := by omega
        simp [e, h, h1]
theorem getA_initBox_loc : ∀ (vs : List (List V)) (i t : Nat), getA (initBox i vs) (.loc t) = none
  | [], i, t => rfl
  | v :: vs, i, t => by simp only [initBox, getA, getA_initBox_loc vs (i + 1) t]; simp
theorem getA_initBox_mp : ∀ (vs : List (List V)) (i t : Nat), getA (initBox i vs) (.mp t) = none
  | [], i, t => rfl
  | v :: vs, i, t => by simp only [initBox, getA, getA_initBox_mp vs (i + 1) t]; simp
theorem getA_initBox_mn : ∀ (vs : List (List V)) (i t : Nat), getA (initBox i vs) (.mn t) = none
  | [], i, t => rfl
  | v :: vs, i, t => by simp only [initBox, getA, getA_initBox_mn vs (i + 1) t]; simp
theorem handed_rep {vs : List V} {outs : List (List V)} {cargs : Array Value} (h : Handed g w vs outs cargs) (n : Nat) : Rep g w g w (initSt vs outs) { tmps := cargs ++ Array.replicate (n - cargs.size) undef, defers := [] } n := by
  refine ⟨fun t v hv => ?_, fun k cs hk => ?_, h.fresh, ⟨h.fresh, h.glob⟩, .refl g w, rfl, by simp; omega, fun k b hb => ?_, h.nones⟩
  · have hv' : vs[t]? = some v := by
      have := getA_initEnv vs 0 t
      simp at this
      rw [← this]; exact hv
    obtain ⟨c, h1, h2⟩ := h.args t v hv'
    refine ⟨c, ?_, h2⟩
    have hlt := (Array.getElem?_eq_some_iff.1 h1).1
    rw [Array.getElem?_append_left hlt]
    exact h1
  · cases k with
    | loc t => have := getA_initBox_loc outs 0 t; rw [show getA (initBox 0 outs) (.loc t) = some cs from hk] at this; cases this
    | mp t => have := getA_initBox_mp outs 0 t; rw [show getA (initBox 0 outs) (.mp t) = some cs from hk] at this; cases this
    | mn t => have := getA_initBox_mn outs 0 t; rw [show getA (initBox 0 outs) (.mn t) = some cs from hk] at this; cases this
    | out i =>
      have := getA_initBox outs 0 i
      simp at this
      exact h.boxes i cs (by rw [← this]; exact hk)
  · cases k with
    | loc t => rw [h.loc t] at hb; cases hb
    | mp t => rw [h.mp t] at hb; cases hb
    | mn t => rw [h.mn t] at hb; cases hb
    | out i =>
      have := getA_initBox outs 0 i
      simp at this
      exact ⟨_, this.trans (List.getElem?_eq_getElem (h.out i b hb))⟩
theorem below_all (hok : InfoOk P I) (hext : ExtOk P I) : ∀ n, Below P I n := by
  intro n
  induction n with
  | zero => intro m hm; omega
  | succ n ihn =>
    intro m hm f fd c vs outs r hfd hc hp hfree h
    by_cases hlt : m < n
    · exact ihn m hlt f fd c vs outs r hfd hc hp hfree h
    have : m = n := by omega
    subst this
    intro g w cargs hH cs
    have hf := hok.func hfd
    have hR := handed_rep hH fd.ntmps
    let b : Frame := { (default : Frame) with fn := f, kind := .normal }
    have henter : Frame.enter P f cargs .normal = b.at { tmps := cargs ++ Array.replicate (fd.ntmps - cargs.size) undef, defers := [] } [.code c] := by
      simp [Frame.enter, Frame.at, hf, hc, b]
    obtain ⟨v, w', fr, h1, h2, h3, g', h4⟩ := exec_sound hok hext m ihn m (Nat.le_refl m) (b := b) (cs := cs) hf rfl rfl (.code c _ _ .nil) hR h
    rw [← henter] at h1
    exact ⟨.returned v, w', fr, ⟨v, g', rfl, h4⟩, h1, h2, h3⟩
/-- A call as the evaluator answers it. -/
theorem call_contract (hok : InfoOk P I) (hext : ExtOk P I) {n f : Nat} {vs : List V} {outs : List (List V)} {r : R} (h : call I n f vs outs = some r) : Contract P f vs outs r := by
  unfold call at h
  split at h
  · rename_i fd hfd
    split at h
    · rename_i c hc
      split at h
      · split at h
        · rename_i e he
          split at h
          · rename_i hpre; exact hext.ext f e vs outs r he hpre h
          · cases h
        · split at h
          · rename_i hp
            exact below_all hok hext (n + 1) n (Nat.lt_succ_self n) f fd c vs outs r hfd hc hp.1 hp.2 h
          · cases h
      · cases h
    · cases h
  · cases h
end
end Go.Proofs.YtacfehneeanlgaaDoor.Ev
namespace Go.Proofs.YtacfehneeanlgaaDoor.Ev
open Go
set_option linter.unusedVariables false
set_option linter.unusedSimpArgs false
/-- Nobody writes anywhere. -/
def gNone : Gh := ⟨fun _ => .free, fun _ => none⟩
theorem law {P : Program} {I : Info} (hok : InfoOk P I) (hext : ExtOk P I) {n f : Nat} {vs : List V} {w : World} {cargs : Array Value} {v : Value} (h : call I n f vs [] = some (.val v, [])) (hl : cargs.size = vs.length)
    (ha : ∀ (i : Nat) (v : V), vs[i]? = some v → ∃ c, cargs[i]? = some c ∧ VRel gNone w (.tmp i) v c) (hgl : GlobOk gNone w) : Calls P f cargs w fun e w' => e = .returned v ∧ Go.RowKit.Below w.heap.size w w' := by
  refine (call_contract hok hext h gNone w cargs ⟨hl, ha, fun i cs hi => by simp at hi, fun _ _ => rfl, fun _ => rfl, fun _ => rfl, fun _ => rfl, fun i b hb => (nomatch hb), fun b r l _ ho => (nomatch ho), hgl⟩).mono fun e w' ⟨c, g', he, q1, q2, q3, q4, q5, q6⟩ => ?_
  have := val_inv q1
  subst this
  exact ⟨he, q5.os, q5.tape, q5.output, q5.size, fun k hk => (q5.free k hk rfl).1⟩
end Go.Proofs.YtacfehneeanlgaaDoor.Ev
