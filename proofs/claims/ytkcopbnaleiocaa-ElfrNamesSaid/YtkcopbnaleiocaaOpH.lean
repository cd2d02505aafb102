/- Regions: what the evaluator runs in the text's order holds in every order that the model may draw. -/
import Derived.Test.YtkcopbnaleiocaaOpG
namespace Go.Proofs.Ytkcopbnaleiocaa.Ev
open Go
set_option linter.unusedVariables false
set_option linter.unusedSimpArgs false
section
variable {P : Program} {I : Info} {g0 g : Gh} {w0 w : World} {σ τ : St} {a : Act} {N : Nat} {o : Oper} {next : Act → World → Prop} {Q : Exit → Act → World → Prop} {ws : List W} {rs : List Loc} {i : Nat}

theorem setA_same {α β : Type} [DecidableEq α] : ∀ (l : List (α × β)) (a : α) (x : β), getA l a = some x → setA l a x = l
  | [], _, _, h => by cases h
  | (c, y) :: r, a, x, h => by
    simp only [getA] at h
    simp only [setA]
    by_cases e : c = a
    · subst e
      simp only [if_true, Option.some.injEq] at h
      subst h
      simp
    · simp only [e, if_false] at h ⊢
      rw [setA_same r a x h]
theorem known_same {x : Operand} {b : Bool} (h : ∀ t, x = .tmp t → σ.tmp t = some (.val (.bool b))) : σ.known x b = σ := by
  cases x with
  | tmp t =>
    simp only [St.known]
    rw [setA_same σ.env t _ (h t rfl)]
  | _ => rfl

/-- What a function without a body answers. -/
def Entry (P : Program) (f : Nat) (vs : List V) (c : Value) : Prop := ∀ g w cargs, Handed g w vs [] cargs → (callFunc f cargs).run P w = .ok (.value c) w
/-- What an operation does that is not passed over. -/
inductive Body (P : Program) (I : Info) (ops : List Oper) (o : Oper) (σ : St) : List Loc → List W → Prop
  | plain (ws : List W) (hr : (opM I ops o).run σ = some (true, ws)) : Body P I ops o σ ((opM I ops o).reads σ) ws
  | call (x : Operand) (args : Array Operand) (ats : Array TypeId) (f f' : Nat) (fd : Func) (vs : List V) (ks : List Key) (outs : List (List V)) (ws : List W) (r : R)
      (ho : o.op = .call ⟨.value x, args, ats⟩) (hf : calleeOf σ x = some f) (hr : (callM f args.toList).run σ = some (f', vs, ks, outs, ws)) (hfd : P.funcs[f']? = some fd) (hb : fd.body.isSome = true) (hname : (fd.name == "runtime.NumGoroutine") = false)
      (hcon : Contract P f' vs outs r) (wb : List W) (hwb : ∀ τ : St, (∀ (i : Nat) (k : Key) (cs : List V), ks[i]? = some k → outs[i]? = some cs → τ.cells k = some cs) → τ.puts wb = τ.puts (boxW ks r.2)) : Body P I ops o σ (calleeReads x ++ (callM f args.toList).reads σ) (ws ++ (wb ++ dstW o.dst (backV ks r.1)))
  | entry (x : Operand) (args : Array Operand) (ats : Array TypeId) (f : Nat) (vs : List V) (ks : List Key) (ws : List W) (c : Value)
      (ho : o.op = .call ⟨.value x, args, ats⟩) (hf : calleeOf σ x = some f) (hr : (callM f args.toList).run σ = some (f, vs, ks, [], ws)) (hent : Entry P f vs c) : Body P I ops o σ (calleeReads x ++ (callM f args.toList).reads σ) (ws ++ dstW o.dst (.val c))
def Going (ops : List Oper) (σ : St) (o : Oper) (g : Option (Nat × Bool)) : Prop :=
  (o.guard = none ∧ g = none) ∨ ∃ t want, g = some (t, want) ∧ o.guard.isSome = true ∧ guardOf ops o = some (t, want) ∧ σ.tmp t = some (.val (.bool want))
inductive OpRun (P : Program) (I : Info) (ops : List Oper) (N : Nat) (σ : St) (i : Nat) : List Loc → List W → Prop
  | go (o : Oper) (g : Option (Nat × Bool)) (rs : List Loc) (ws : List W) (ho : ops[i]? = some o) (hf : fits N o = true) (hg : Going ops σ o g) (hb : Body P I ops o σ rs ws) : OpRun P I ops N σ i (guardRead g ++ rs) ws
  | skip (o : Oper) (t : Nat) (want : Bool) (ho : ops[i]? = some o) (hf : fits N o = true) (hs : o.guard.isSome = true) (hg : guardOf ops o = some (t, want)) (v : Value) (hv : σ.tmp t = some (.val v)) (hne : v ≠ .bool want) : OpRun P I ops N σ i [.tmp t] (undefW o.dst)

theorem at_tmp {t : Nat} (h : σ.at_ (.tmp t) = τ.at_ (.tmp t)) : σ.tmp t = τ.tmp t := by simpa [St.at_] using h
theorem calleeOf_congr {x : Operand} (h : ∀ l ∈ calleeReads x, σ.at_ l = τ.at_ l) : calleeOf τ x = calleeOf σ x := by
  cases x with
  | tmp t => simp only [calleeOf]; rw [at_tmp (h (.tmp t) (by simp [calleeReads]))]
  | _ => rfl
theorem Body.congr {ops : List Oper} (hb : Body P I ops o σ rs ws) (h : ∀ l ∈ rs, σ.at_ l = τ.at_ l) : Body P I ops o τ rs ws := by
  cases hb with
  | plain _ hr =>
    obtain ⟨e1, e2⟩ := M.run_congr (opM I ops o) h
    rw [← e2]
    exact .plain ws (e1.trans hr)
  | call x args ats f f' fd vs ks outs ws0 r ho hf hr hfd hb hname hcon wb hwb =>
    obtain ⟨e1, e2⟩ := M.run_congr (callM f args.toList) (fun l hl => h l (List.mem_append_right _ hl))
    rw [← e2]
    exact .call x args ats f f' fd vs ks outs ws0 r ho ((calleeOf_congr fun l hl => h l (List.mem_append_left _ hl)).trans hf) (e1.trans hr) hfd hb hname hcon wb hwb
  | entry x args ats f vs ks ws0 c ho hf hr hent =>
    obtain ⟨e1, e2⟩ := M.run_congr (callM f args.toList) (fun l hl => h l (List.mem_append_right _ hl))
    rw [← e2]
    exact .entry x args ats f vs ks ws0 c ho ((calleeOf_congr fun l hl => h l (List.mem_append_left _ hl)).trans hf) (e1.trans hr) hent
theorem OpRun.congr {ops : List Oper} (hr : OpRun P I ops N σ i rs ws) (h : ∀ l ∈ rs, σ.at_ l = τ.at_ l) : OpRun P I ops N τ i rs ws := by
  cases hr with
  | go o g rs ws ho hf hg hb =>
    refine .go o g rs ws ho hf ?_ (hb.congr fun l hl => h l (List.mem_append_right _ hl))
    rcases hg with hg | ⟨t, want, rfl, h1, h2, h3⟩
    · exact .inl hg
    · refine .inr ⟨t, want, rfl, h1, h2, ?_⟩
      rw [← at_tmp (h (.tmp t) (by simp [guardRead]))]
      exact h3
  | skip o t want ho hf hs hg v hv hne =>
    refine .skip o t want ho hf hs hg v ?_ hne
    rw [← at_tmp (h (.tmp t) (by simp))]
    exact hv

theorem fits_call {x : Operand} {args : Array Operand} {ats : Array TypeId} (hf : fits N o = true) (ho : o.op = .call ⟨.value x, args, ats⟩) : ∀ t, o.dst = some t → t < N := by
  intro t ht
  unfold fits at hf
  rw [ht] at hf
  split at hf <;> simp_all
theorem yield_guard {ops : Array Oper} {j t : Nat} {p : Oper} {b : Bool} (h : Rep g0 w0 g w σ a N) (hp : ops.toList[j]? = some p) (hd : p.dst = some t) (hv : σ.tmp t = some (.val (.bool b))) : yielded ops a.tmps j = some b := by
  obtain ⟨c, h1, h2⟩ := h.env t _ hv
  have := val_inv h2
  subst this
  have hp' : ops[j]? = some p := by simpa using hp
  simp [yielded, hp', hd, h1]
theorem guard_wanted {ops : Array Oper} {t : Nat} {want b : Bool} (h : Rep g0 w0 g w σ a N) (hs : o.guard.isSome = true) (hg : guardOf ops.toList o = some (t, want)) (hv : σ.tmp t = some (.val (.bool b))) : Region.wanted o (yielded ops a.tmps) = (b == want) := by
  unfold guardOf at hg
  unfold Region.wanted
  cases hgu : o.guard with
  | none => rw [hgu] at hs; cases hs
  | some q =>
    obtain ⟨j, w1⟩ := q
    rw [hgu] at hg
    simp only at hg
    split at hg
    · rename_i p hp
      split at hg
      · rename_i t' ht
        cases hg
        simp only
        rw [yield_guard h hp ht hv]
        rfl
      · cases hg
    · cases hg
theorem guard_unwanted {ops : Array Oper} {t : Nat} {want : Bool} {v : Value} (h : Rep g0 w0 g w σ a N) (hs : o.guard.isSome = true) (hg : guardOf ops.toList o = some (t, want)) (hv : σ.tmp t = some (.val v)) (hne : v ≠ .bool want) : Region.wanted o (yielded ops a.tmps) = false := by
  unfold guardOf at hg
  unfold Region.wanted
  cases hgu : o.guard with
  | none => rw [hgu] at hs; cases hs
  | some q =>
    obtain ⟨j, w1⟩ := q
    rw [hgu] at hg
    simp only at hg
    split at hg
    · rename_i p hp
      split at hg
      · rename_i t' ht
        cases hg
        simp only
        obtain ⟨c, h1, h2⟩ := h.env _ _ hv
        have := val_inv h2
        subst this
        have hp' : ops[j]? = some p := by simpa using hp
        cases c with
        | bool b =>
          simp only [yielded, hp', ht, h1, Option.bind_some]
          have : b ≠ want := fun e => hne (by rw [e])
          cases b <;> cases want <;> simp_all
        | _ => simp [yielded, hp', ht, h1]
      · cases hg
    · cases hg
theorem fits_skip (hf : fits N o = true) : ∀ t, o.dst = some t → t < N := by
  intro t ht
  unfold fits at hf
  rw [ht] at hf
  split at hf <;> simp_all
theorem callee_eval (h : Rep g0 w0 g w σ a N) {x : Operand} {f : Nat} (hf : calleeOf σ x = some f) : a.eval x = .func (.func f) #[] #[] := by
  cases x with
  | func f' => simp only [calleeOf, Option.some.injEq] at hf; subst hf; rfl
  | tmp t =>
    simp only [calleeOf] at hf
    split at hf
    · rename_i f' fi ca ht
      split at hf
      · rename_i he
        cases hf
        obtain ⟨c, h1, h2⟩ := h.env t _ ht
        have := val_inv h2
        subst this
        have e1 : fi = #[] := Array.eq_empty_of_size_eq_zero he.1
        have e2 : ca = #[] := Array.eq_empty_of_size_eq_zero he.2
        subst e1
        subst e2
        simp [Act.eval, Array.getD_eq_getD_getElem?, h1]
      · cases hf
    · cases hf
  | _ => cases hf
theorem OpRun.wpOp {ops : Array Oper} {K : Act → World → Prop} (hok : InfoOk P I) (h : Rep g0 w0 g w σ a N) (hr : OpRun P I ops.toList N σ i rs ws)
    (hn : ∀ g' a' w', Rep g0 w0 g' w' (σ.puts ws) a' N → K a' w') : wpOp P ops Q i K a w := by
  cases hr with
  | go o g' rs ws ho hf hg hb =>
    have ho' : ops[i]? = some o := by simpa using ho
    unfold Go.wpOp
    simp only [ho']
    have hw : Region.wanted o (yielded ops a.tmps) = true := by
      rcases hg with ⟨hg, _⟩ | ⟨t, want, _, h1, h2, h3⟩
      · simp [Region.wanted, hg]
      · rw [guard_wanted h h1 h2 h3]; simp
    rw [if_pos hw]
    refine .inl ?_
    cases hb with
    | plain _ hr => exact opM_sound hok h hf hr hn
    | call x args ats f f' fd vs ks outs ws0 r ho hf' hr hfd hb hname hcon wb hwb =>
      obtain ⟨vs0, outs0, hc, e⟩ := callM_run h hr
      simp only [Prod.mk.injEq] at e
      obtain ⟨rfl, rfl, rfl, rfl, rfl⟩ := e
      obtain ⟨-, -, -, hcells⟩ := goneAll_rep args.toList vs0 σ h hc.nodup (fun i t v hx hv => (hc.args i _ v hx hv).2.1 t rfl) (fun v hv us e => by subst e; have := hc.ok _ hv; cases this) (fun v hv c x e => by subst e; have := hc.ok _ hv; cases this)
      exact call_sound h ho hf' hfd hb hname (fits_call hf ho) hc hcon (fun g' a' w' hR => hn g' a' w' (by
        rw [St.puts_append, St.puts_append, hwb _ (fun i k cs hk hcs => ?_), ← St.puts_append]
        · exact hR
        · rw [hcells]; exact hc.outs i k cs hk hcs))
    | entry x args ats f vs ks ws0 c ho hf' hr hent =>
      obtain ⟨vs0, outs0, hc, e⟩ := callM_run h hr
      simp only [Prod.mk.injEq, true_and] at e
      obtain ⟨rfl, rfl, rfl, rfl⟩ := e
      have hx := callee_eval h hf'
      have hmap : (args.toList.map a.eval).toArray = args.map a.eval := by apply Array.ext'; simp
      have hcf := hent _ _ _ (call_in h hc)
      rw [hmap] at hcf
      have hrun : (execOp a.eval o).run P w = .ok (.value c) w := by
        simp only [execOp, ho]
        simp [resolve, Deferred.ofValue, hx, invoke, hcf]
      obtain ⟨h1, -, -, -⟩ := goneAll_rep args.toList vs0 σ h hc.nodup (fun i t v hx hv => (hc.args i _ v hx hv).2.1 t rfl) (fun v hv us e => by subst e; have := hc.ok _ hv; cases this) (fun v hv c x e => by subst e; have := hc.ok _ hv; cases this)
      refine up_value hrun (hn g _ _ ?_)
      rw [St.puts_append]
      exact h1.dst (fits_call hf ho) (fun _ => .val _ _)
  | skip o t want ho hf hs hg v hv hne =>
    have ho' : ops[i]? = some o := by simpa using ho
    unfold Go.wpOp
    simp only [ho']
    have hw : Region.wanted o (yielded ops a.tmps) = false := by
      exact guard_unwanted h hs hg hv hne
    rw [if_neg (by simp [hw])]
    cases hd : o.dst with
    | none => rw [hd] at hn; exact hn _ _ _ h
    | some d => 
      rw [hd] at hn
      exact hn _ _ _ (h.putTmp (fits_skip hf d hd) (.val _ _))

abbrev Ent := Nat × List Loc × List W
/-- The operations' runs one behind the other. -/
inductive Trace (P : Program) (I : Info) (ops : List Oper) (N : Nat) : St → List Ent → Prop
  | nil (σ : St) : Trace P I ops N σ []
  | cons (σ : St) (i : Nat) (rs : List Loc) (ws : List W) (tr : List Ent) (h : OpRun P I ops N σ i rs ws) (ht : Trace P I ops N (σ.puts ws) tr) : Trace P I ops N σ ((i, rs, ws) :: tr)
def allW (tr : List Ent) : List W := tr.flatMap (·.2.2)
theorem Trace.wpOps {ops : Array Oper} (hok : InfoOk P I) : ∀ {tr : List Ent} {σ : St} {g : Gh} {w : World} {a : Act}, Rep g0 w0 g w σ a N → Trace P I ops.toList N σ tr → (∀ g' a' w', Rep g0 w0 g' w' (σ.puts (allW tr)) a' N → Q .normal a' w') → wpOps P ops Q (tr.map (·.1)) a w
  | [], σ, g, w, a, h, _, hn => hn _ _ _ h
  | (i, rs, ws) :: tr, σ, g, w, a, h, ht, hn => by
    cases ht with
    | cons _ _ _ _ _ hr ht =>
      rw [List.map_cons, wpOps_cons]
      refine hr.wpOp hok h fun g' a' w' h' => Trace.wpOps hok h' ht fun g2 a2 w2 h2 => hn g2 a2 w2 ?_
      simp only [allW, List.flatMap_cons, St.puts_append] at h2 ⊢
      exact h2
theorem Trace.at {ops : List Oper} : ∀ {A B : List Ent} {σ : St} {e : Ent}, Trace P I ops N σ (A ++ e :: B) → OpRun P I ops N (σ.puts (allW A)) e.1 e.2.1 e.2.2
  | [], B, σ, e, h => by cases h with | cons _ _ _ _ _ h _ => exact h
  | x :: A, B, σ, e, h => by
    cases h with
    | cons _ _ _ _ _ _ h => simp only [allW, List.flatMap_cons, St.puts_append]; exact Trace.at h
end
end Go.Proofs.Ytkcopbnaleiocaa.Ev
