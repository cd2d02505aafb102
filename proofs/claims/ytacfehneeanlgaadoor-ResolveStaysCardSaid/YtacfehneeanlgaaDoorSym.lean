/- Symbolic runs of the evaluator: fuel does not matter; a piece of a run told as a tree of questions. -/
import Derived.Test.YtacfehneeanlgaaDoorInfo
namespace Go.Proofs.YtacfehneeanlgaaDoor.Ev
open Go
set_option linter.unusedVariables false
set_option linter.unusedSimpArgs false
section
variable {I : Info}
/-- More fuel does no harm. -/
theorem exec_succ : ∀ (n : Nat) (fn : Nat × Func × Nat) (k : List T) (σ : St) (r : R), exec I n fn k σ = some r → exec I (n + 1) fn k σ = some r
  | 0, _, _, _, _, h => by simp [exec] at h
  | n + 1, fn, k, σ, r, h => by
    have ih := exec_succ n
    match k with
    | [] => simpa only [exec] using h
    | .blk _ :: k => simp only [exec] at h ⊢; exact ih _ _ _ _ h
    | .scp _ :: k => simp only [exec] at h ⊢; exact ih _ _ _ _ h
    | .lp c :: k => simp only [exec] at h ⊢; exact ih _ _ _ _ h
    | .code c :: k =>
      cases c with
      | skip => simp only [exec] at h ⊢; exact ih _ _ _ _ h
      | label _ => simp only [exec] at h ⊢; exact ih _ _ _ _ h
      | seq a b => simp only [exec] at h ⊢; exact ih _ _ _ _ h
      | block id c => simp only [exec] at h ⊢; exact ih _ _ _ _ h
      | loop c => simp only [exec] at h ⊢; exact ih _ _ _ _ h
      | scope c => simp only [exec] at h ⊢; exact ih _ _ _ _ h
      | ret => simpa only [exec] using h
      | region id ops draw => simp only [exec] at h ⊢; exact ih _ _ _ _ h
      | exit id =>
        simp only [exec] at h ⊢
        cases he : exitT id k with
        | none => rw [he] at h; exact h
        | some k' => rw [he] at h; exact ih _ _ _ _ h
      | cond x a b =>
        simp only [exec] at h ⊢
        split at h
        · rename_i v hv
          cases v
          · exact ih _ _ _ _ h
          · exact ih _ _ _ _ h
        · cases h
      | _ => simp only [exec] at h; cases h
    | .ops id ops [] fp :: k =>
      simp only [exec] at h ⊢
      split at h
      · exact ih _ _ _ _ h
      · cases h
    | .ops id ops (i :: rest) fp :: k =>
      simp only [exec] at h ⊢
      split at h
      · cases h
      rename_i o ho
      split at h
      · cases h
      rename_i hf
      rw [if_neg hf]
      have body : ∀ (g : Option (Nat × Bool)) (σ : St), (match o.op with
        | .call { callee := .value x, args, .. } => match calleeOf σ x with
          | none => none
          | some f => match (callM f args.toList).run σ with
            | none => none
            | some (f, vs, ks, outs, ws) => match I.entry f with
              | some e => match e vs, outs with
                | some c, [] => exec I n fn (.ops id ops rest (note fp i (guardRead g ++ (calleeReads x ++ (callM f args.toList).reads σ)) (ws ++ dstW o.dst (.val c))) :: k) (σ.puts (ws ++ dstW o.dst (.val c)))
                | _, _ => none
              | none => match I.pre f vs outs with
                | true => (match I.func f with
                | some fd => match fd.body with
                  | some c => if (fd.name == "runtime.NumGoroutine") = false then
                      match I.ext f with
                      | some e => e vs outs
                      | none => if fd.params.size = vs.length ∧ fd.nfree = 0 then exec I n (f, fd, outs.length) [.code c] (initSt vs outs) else none
                    else none
                  | none => none
                | none => none).bind fun (r : R) =>
                exec I n fn (.ops id ops rest (note fp i (guardRead g ++ (calleeReads x ++ (callM f args.toList).reads σ)) (ws ++ (touchW (I.touch f) ks outs r.2 ++ dstW o.dst (backV ks r.1)))) :: k) (σ.puts (ws ++ (touchW (I.touch f) ks outs r.2 ++ dstW o.dst (backV ks r.1))))
                | false => none
        | _ => (opM I ops o).runK σ fun p => match p.1 with
          | true => exec I n fn (.ops id ops rest (note fp i (guardRead g ++ (opM I ops o).reads σ) p.2) :: k) (σ.puts p.2)
          | false => none) = some r → (match o.op with
        | .call { callee := .value x, args, .. } => match calleeOf σ x with
          | none => none
          | some f => match (callM f args.toList).run σ with
            | none => none
            | some (f, vs, ks, outs, ws) => match I.entry f with
              | some e => match e vs, outs with
                | some c, [] => exec I (n + 1) fn (.ops id ops rest (note fp i (guardRead g ++ (calleeReads x ++ (callM f args.toList).reads σ)) (ws ++ dstW o.dst (.val c))) :: k) (σ.puts (ws ++ dstW o.dst (.val c)))
                | _, _ => none
              | none => match I.pre f vs outs with
                | true => (match I.func f with
                | some fd => match fd.body with
                  | some c => if (fd.name == "runtime.NumGoroutine") = false then
                      match I.ext f with
                      | some e => e vs outs
                      | none => if fd.params.size = vs.length ∧ fd.nfree = 0 then exec I (n + 1) (f, fd, outs.length) [.code c] (initSt vs outs) else none
                    else none
                  | none => none
                | none => none).bind fun (r : R) =>
                exec I (n + 1) fn (.ops id ops rest (note fp i (guardRead g ++ (calleeReads x ++ (callM f args.toList).reads σ)) (ws ++ (touchW (I.touch f) ks outs r.2 ++ dstW o.dst (backV ks r.1)))) :: k) (σ.puts (ws ++ (touchW (I.touch f) ks outs r.2 ++ dstW o.dst (backV ks r.1))))
                | false => none
        | _ => (opM I ops o).runK σ fun p => match p.1 with
          | true => exec I (n + 1) fn (.ops id ops rest (note fp i (guardRead g ++ (opM I ops o).reads σ) p.2) :: k) (σ.puts p.2)
          | false => none) = some r := by
        intro g σ h
        split at h
        · rename_i x args ats hop
          split at h
          · cases h
          rename_i f hcal
          split at h
          · cases h
          rename_i f' vs ks outs ws hrun
          try simp only [hop, hcal, hrun]
          split at h
          · rename_i e hent
            split at h
            · rename_i c hec
              try simp only [hent, hec]
              exact ih _ _ _ _ h
            · cases h
          · rename_i hent
            try simp only [hent]
            split at h
            case h_2 => cases h
            rename_i hpre
            try simp only [hpre]
            rw [Option.bind_eq_some_iff] at h ⊢
            obtain ⟨r1, hr1, h⟩ := h
            refine ⟨r1, ?_, ih _ _ _ _ h⟩
            split at hr1
            · rename_i fd hfd
              split at hr1
              · rename_i c hc
                split at hr1
                · rename_i hname
                  try simp only [hfd, hc, hname]
                  split at hr1
                  · rename_i e he
                    try simp only [he]
                    rw [if_pos trivial]
                    exact hr1
                  · rename_i he
                    split at hr1
                    · rename_i hp
                      try simp only [he]
                      rw [if_pos trivial, if_pos hp]
                      exact ih _ _ _ _ hr1
                    · cases hr1
                · cases hr1
              · cases hr1
            · cases hr1
        · rename_i hnot
          rw [M.runK_eq, Option.bind_eq_some_iff] at h ⊢
          obtain ⟨⟨ok, ws⟩, hrun, h⟩ := h
          refine ⟨(ok, ws), hrun, ?_⟩
          cases ok with
          | false => cases h
          | true => exact ih _ _ _ _ h
      split at h
      · rename_i hgu
        try simp only [hgu]
        exact body none _ h
      · rename_i q hgu
        split at h
        · cases h
        rename_i t want hg
        try simp only [hgu, hg]
        split at h
        · rename_i b hv
          cases b with
          | true =>
            cases want with
            | true => rw [if_pos rfl] at h ⊢; exact body _ _ h
            | false => rw [if_neg (by simp)] at h ⊢; exact ih _ _ _ _ h
          | false =>
            cases want with
            | true => rw [if_pos rfl] at h ⊢; exact ih _ _ _ _ h
            | false => rw [if_neg (by simp)] at h ⊢; exact body _ _ h
        · rename_i v _ hv
          cases hb : isBool v with
          | true => rw [hb] at h; cases h
          | false =>
            rw [hb] at h
            exact ih _ _ _ _ h
        · cases h
theorem exec_mono {n m : Nat} (h : n ≤ m) {fn : Nat × Func × Nat} {k : List T} {σ : St} {r : R} (hx : exec I n fn k σ = some r) : exec I m fn k σ = some r := by
  induction m with
  | zero => have : n = 0 := by omega
            subst this; exact hx
  | succ m ih =>
    by_cases e : n = m + 1
    · subst e; exact hx
    · exact exec_succ m _ _ _ _ (ih (by omega))
/-- A run comes to an answer of which Q holds. -/
def Runs (I : Info) (fn : Nat × Func × Nat) (k : List T) (σ : St) (Q : R → Prop) : Prop := ∃ n r, exec I n fn k σ = some r ∧ Q r
/-- A piece of a run. -/
inductive Tr where
  | ret (r : R)
  | fail
  | go (j : Nat) (k : List T) (σ : St)
  | ask (b : Bool) (t f : Tr)
def Tr.val (I : Info) (fn : Nat × Func × Nat) (n : Nat) : Tr → Option R
  | .ret r => some r
  | .fail => none
  | .go j k σ => exec I (n + j) fn k σ
  | .ask b t f => match b with
    | true => t.val I fn n
    | false => f.val I fn n
def Tr.prop (I : Info) (fn : Nat × Func × Nat) (Q : R → Prop) : Tr → Prop
  | .ret r => Q r
  | .fail => False
  | .go _ k σ => Runs I fn k σ Q
  | .ask b t f => (b = true → t.prop I fn Q) ∧ (b = false → f.prop I fn Q)
theorem Tr.sound {fn : Nat × Func × Nat} {Q : R → Prop} : ∀ {t : Tr}, t.prop I fn Q → ∃ n r, t.val I fn n = some r ∧ Q r
  | .ret r', h => ⟨0, r', rfl, h⟩
  | .fail, h => h.elim
  | .go j k σ, ⟨n, r, h, hq⟩ => ⟨n, r, exec_mono (Nat.le_add_right n j) h, hq⟩
  | .ask true t f, h => Tr.sound (t := t) (h.1 rfl)
  | .ask false t f, h => Tr.sound (t := f) (h.2 rfl)
theorem Runs.of {fn : Nat × Func × Nat} {k : List T} {σ : St} {Q : R → Prop} {t : Tr} {K : Nat} (e : ∀ n, exec I (n + K) fn k σ = t.val I fn n) (h : t.prop I fn Q) : Runs I fn k σ Q := by
  obtain ⟨n, r, h, hq⟩ := Tr.sound h
  exact ⟨n + K, r, (e n).trans h, hq⟩
theorem ask {fn : Nat × Func × Nat} {Q : R → Prop} {b : Bool} {t f : Tr} (h1 : b = true → t.prop I fn Q) (h2 : b = false → f.prop I fn Q) : (Tr.ask b t f).prop I fn Q := ⟨h1, h2⟩
theorem askT {fn : Nat × Func × Nat} {Q : R → Prop} {b : Bool} {t f : Tr} (h : b = true) (h1 : t.prop I fn Q) : (Tr.ask b t f).prop I fn Q := ⟨fun _ => h1, fun e => absurd (h.symm.trans e) (by simp)⟩
theorem askF {fn : Nat × Func × Nat} {Q : R → Prop} {b : Bool} {t f : Tr} (h : b = false) (h1 : f.prop I fn Q) : (Tr.ask b t f).prop I fn Q := ⟨fun e => absurd (h.symm.trans e) (by simp), fun _ => h1⟩
/-- A row's cell. -/
def cellI (xs : List (List D)) (i j : Nat) : Int := ((xs.getD i []).getD j default).toInt
def cellB (xs : List (List D)) (i j : Nat) : Bool := ((xs.getD i []).getD j default).toBool
def cellS (xs : List (List D)) (i j : Nat) : ByteArray := ((xs.getD i []).getD j default).toStr
def cellA (xs : List (List D)) (i j : Nat) : List (List D) := ((xs.getD i []).getD j default).toArr
def sub : Code → List Nat → Code
  | c, [] => c
  | .seq a _, 0 :: p => sub a p
  | .seq _ b, _ :: p => sub b p
  | .cond _ a _, 0 :: p => sub a p
  | .cond _ _ b, _ :: p => sub b p
  | .block _ c, _ :: p => sub c p
  | .loop c, _ :: p => sub c p
  | .scope c, _ :: p => sub c p
  | c, _ => c
def bodyOf (f : Func) : Code := f.body.getD .skip

/-- A value may be told as one that says less. -/
inductive Rx1 : V → V → Prop
  | refl (v : V) : Rx1 v v
  | nilOwn (cs : List CT) : Rx1 (.val nilSlice) (.own cs [])
  | nilArr (cs : List CT) : Rx1 (.val nilSlice) (.arr cs [])
  | ownArr (cs : List CT) (xs : List (List D)) : Rx1 (.own cs xs) (.arr cs xs)
/-- .. a whole result, or a part of a tuple. -/
inductive Rx2 : V → V → Prop
  | one {v v' : V} (h : Rx1 v v') : Rx2 v v'
  | nilUni (cs : List CT) : Rx2 (.val nilSlice) (.uni cs [])
  | agg {vs vs' : List V} (hl : vs.length = vs'.length) (h : ∀ (i : Nat) (v v' : V), vs[i]? = some v → vs'[i]? = some v' → Rx1 v v') : Rx2 (.agg vs) (.agg vs')
inductive Relax : V → V → Prop
  | one {v v' : V} (h : Rx2 v v') : Relax v v'
  | tup {vs vs' : List V} (hl : vs.length = vs'.length) (h : ∀ (i : Nat) (v v' : V), vs[i]? = some v → vs'[i]? = some v' → Rx2 v v') : Relax (.tup vs) (.tup vs')
  | agg {vs vs' : List V} (hl : vs.length = vs'.length) (h : ∀ (i : Nat) (v v' : V), vs[i]? = some v → vs'[i]? = some v' → Rx1 v v') : Relax (.agg vs) (.agg vs')
theorem Rx1.rel {v v' : V} (hr : Rx1 v v') {g : Gh} {w : World} {s : Slot} {c : Value} (h : VRel g w s v c) : VRel g w s v' c := by
  cases hr with
  | refl => exact h
  | nilOwn cs => rw [val_inv h]; exact .own _ _ _ _ (.nil _ _ _ rfl) (.inl rfl)
  | nilArr cs => rw [val_inv h]; exact .arr _ _ _ _ (.nil _ _ _ rfl)
  | ownArr cs xs => exact .arr _ _ _ _ (own_d h)
theorem Rx1.res {v v' : V} (hr : Rx1 v v') (h : v.res) : v'.res := by cases hr <;> first | exact h | trivial
theorem Rx1.flat {v v' : V} (hr : Rx1 v v') (h : v.flat) : v'.flat := by cases hr <;> first | exact h | trivial
theorem Rx1.cellP {v v' : V} (hr : Rx1 v v') (h : v.cellP) : v'.cellP := by cases hr <;> first | exact h | trivial
theorem Rx1.back {no : Nat} {v v' : V} (hr : Rx1 v v') (h : v.back no) : v'.back no := by cases hr <;> first | exact h | trivial
theorem Rx1.back1 {v v' : V} (hr : Rx1 v v') (h : v.back1) : v'.back1 := by cases hr <;> first | exact h | trivial
theorem Rx2.rel {v v' : V} (hr : Rx2 v v') {g : Gh} {w : World} {s : Slot} {c : Value} (h : VRel g w s v c) : VRel g w s v' c := by
  cases hr with
  | one hr => exact hr.rel h
  | nilUni cs => rw [val_inv h]; exact .uni _ _ _ _ (.inl ⟨rfl, rfl⟩)
  | agg hl hr =>
    rename_i vs vs'
    generalize hv : V.agg vs = u at h
    cases h with
    | agg _ us cs hl' hn hx =>
      cases hv
      have pre : ∀ (i : Nat) (v' : V), vs'[i]? = some v' → ∃ v, vs[i]? = some v := fun i v' hv' => by
        have : i < vs.length := by rw [hl]; exact (List.getElem?_eq_some_iff.1 hv').1
        exact ⟨_, List.getElem?_eq_getElem this⟩
      refine .agg _ _ cs (hl.symm.trans hl') (fun i v' hv' => ?_) (fun i v' c hv' hc => ?_)
      · obtain ⟨v, hv⟩ := pre i v' hv'
        exact (hr i v v' hv hv').cellP (hn i v hv)
      · obtain ⟨v, hv⟩ := pre i v' hv'
        exact (hr i v v' hv hv').rel (hx i v c hv hc)
    | _ => cases hv
theorem Rx2.flats {vs vs' : List V} (hl : vs.length = vs'.length) (hr : ∀ (i : Nat) (v v' : V), vs[i]? = some v → vs'[i]? = some v' → Rx1 v v') (h : ∀ v ∈ vs, v.flat) : ∀ v ∈ vs', v.flat := by
  intro u hu
  obtain ⟨i, hi, rfl⟩ := List.getElem_of_mem hu
  have hi' : i < vs.length := by rw [hl]; exact hi
  exact (hr i _ _ (List.getElem?_eq_getElem hi') (List.getElem?_eq_getElem hi)).flat (h _ (List.getElem_mem hi'))
theorem Rx2.res {v v' : V} (hr : Rx2 v v') (h : v.res) : v'.res := by
  cases hr with
  | one hr => exact hr.res h
  | nilUni => trivial
  | agg => exact h
theorem Rx2.back {no : Nat} {v v' : V} (hr : Rx2 v v') (h : v.back no) : v'.back no := by
  cases hr with
  | one hr => exact hr.back h
  | nilUni => trivial
  | agg hl hr => exact Rx2.flats hl hr h
theorem Rx2.back1 {v v' : V} (hr : Rx2 v v') (h : v.back1) : v'.back1 := by
  cases hr with
  | one hr => exact hr.back1 h
  | nilUni => trivial
  | agg hl hr => exact Rx2.flats hl hr h
theorem Relax.back {no : Nat} {v v' : V} (hr : Relax v v') (h : v.back no) : v'.back no := by
  cases hr with
  | one hr => exact hr.back h
  | tup hl hr =>
    rename_i vs vs'
    intro u hu
    obtain ⟨i, hi, rfl⟩ := List.getElem_of_mem hu
    have hi' : i < vs.length := by rw [hl]; exact hi
    exact (hr i _ _ (List.getElem?_eq_getElem hi') (List.getElem?_eq_getElem hi)).back1 (h _ (List.getElem_mem hi'))
  | agg hl hr =>
    rename_i vs vs'
    intro u hu
    obtain ⟨i, hi, rfl⟩ := List.getElem_of_mem hu
    have hi' : i < vs.length := by rw [hl]; exact hi
    exact (hr i _ _ (List.getElem?_eq_getElem hi') (List.getElem?_eq_getElem hi)).flat (h _ (List.getElem_mem hi'))
theorem Relax.rel {v v' : V} (hr : Relax v v') {g : Gh} {w : World} {s : Slot} {c : Value} (h : VRel g w s v c) : VRel g w s v' c := by
  cases hr with
  | one hr => exact hr.rel h
  | tup hl hr =>
    rename_i vs vs'
    generalize hv : V.tup vs = u at h
    cases h with
    | tup _ us cs hl' hn hx =>
      cases hv
      have pre : ∀ (i : Nat) (v' : V), vs'[i]? = some v' → ∃ v, vs[i]? = some v := fun i v' hv' => by
        have : i < vs.length := by rw [hl]; exact (List.getElem?_eq_some_iff.1 hv').1
        exact ⟨_, List.getElem?_eq_getElem this⟩
      refine .tup _ _ cs (hl.symm.trans hl') (fun i v' hv' => ?_) (fun i v' c hv' hc => ?_)
      · obtain ⟨v, hv⟩ := pre i v' hv'
        exact (hr i v v' hv hv').res (hn i v hv)
      · obtain ⟨v, hv⟩ := pre i v' hv'
        exact (hr i v v' hv hv').rel (hx i v c hv hc)
    | _ => cases hv
  | agg hl hr =>
    rename_i vs vs'
    generalize hv : V.agg vs = u at h
    cases h with
    | agg _ us cs hl' hn hx =>
      cases hv
      have pre : ∀ (i : Nat) (v' : V), vs'[i]? = some v' → ∃ v, vs[i]? = some v := fun i v' hv' => by
        have : i < vs.length := by rw [hl]; exact (List.getElem?_eq_some_iff.1 hv').1
        exact ⟨_, List.getElem?_eq_getElem this⟩
      refine .agg _ _ cs (hl.symm.trans hl') (fun i v' hv' => ?_) (fun i v' c hv' hc => ?_)
      · obtain ⟨v, hv⟩ := pre i v' hv'
        exact (hr i v v' hv hv').cellP (hn i v hv)
      · obtain ⟨v, hv⟩ := pre i v' hv'
        exact (hr i v v' hv hv').rel (hx i v c hv hc)
    | _ => cases hv
theorem Contract.relax {P : Program} {f : Nat} {vs : List V} {outs o : List (List V)} {v v' : V} (h : Contract P f vs outs (v, o)) (hr : Relax v v') : Contract P f vs outs (v', o) := by
  intro g w cargs hh
  refine (h g w cargs hh).mono fun e w' ⟨c, g', he, q1, q2, q3⟩ => ⟨c, g', he, hr.rel q1, hr.back q2, q3⟩
/-- Arguments as the callee's contract speaks of them: an empty row for nil, rows without their spare room. -/
def castV : Option (List CT) → V → V
  | some cs, .val (.slice none 0 0) => .arr cs []
  | some _, .own c xs => .arr c xs
  | _, v => v
def castArgs : List (Option (List CT)) → List V → List V
  | k :: ks, v :: vs => castV k v :: castArgs ks vs
  | _, vs => vs
theorem castV_rel (k : Option (List CT)) {v : V} {g : Gh} {w : World} {s : Slot} {c : Value} (h : VRel g w s v c) : VRel g w s (castV k v) c := by
  unfold castV
  split
  · rw [val_inv h]; exact .arr _ _ _ _ (.nil _ _ _ rfl)
  · exact .arr _ _ _ _ (own_d h)
  · exact h
theorem castArgs_get : ∀ (ks : List (Option (List CT))) (vs : List V) (i : Nat) (v' : V), (castArgs ks vs)[i]? = some v' → ∃ v, vs[i]? = some v ∧ ∀ {g : Gh} {w : World} {s : Slot} {c : Value}, VRel g w s v c → VRel g w s v' c
  | [], vs, i, v', h => ⟨v', by simpa [castArgs] using h, fun h => h⟩
  | k :: ks, [], i, v', h => by simp [castArgs] at h
  | k :: ks, v :: vs, 0, v', h => by
    simp only [castArgs, List.getElem?_cons_zero, Option.some.injEq] at h
    subst h
    exact ⟨v, rfl, castV_rel k⟩
  | k :: ks, v :: vs, i + 1, v', h => by
    simp only [castArgs, List.getElem?_cons_succ] at h
    obtain ⟨u, hu, hx⟩ := castArgs_get ks vs i v' h
    exact ⟨u, by simpa using hu, hx⟩
theorem castArgs_length : ∀ (ks : List (Option (List CT))) (vs : List V), (castArgs ks vs).length = vs.length
  | [], _ => by simp [castArgs]
  | _ :: _, [] => by simp [castArgs]
  | _ :: ks, _ :: vs => by simp [castArgs, castArgs_length ks vs]
theorem Contract.cast {P : Program} {f : Nat} {ks : List (Option (List CT))} {vs : List V} {outs : List (List V)} {r : R} (h : Contract P f (castArgs ks vs) outs r) : Contract P f vs outs r := by
  intro g w cargs hh
  refine h g w cargs ⟨by rw [castArgs_length]; exact hh.size, fun i v' hv' => ?_, hh.boxes, hh.fresh, hh.loc, hh.mp, hh.mn, hh.out, hh.nones, hh.glob⟩
  obtain ⟨v, hv, hx⟩ := castArgs_get ks vs i v' hv'
  obtain ⟨c, hc, hr⟩ := hh.args i v hv
  exact ⟨c, hc, hx hr⟩
/-- A run from its beginning is a call's. -/
theorem contract_of_runs {P : Program} (hok : InfoOk P I) (hext : ExtOk P I) {f : Nat} {fd : Func} {c : Code} {vs : List V} {outs o : List (List V)} {v : V} (h1 : I.func f = some fd) (h2 : fd.body = some c) (h3 : (fd.name == "runtime.NumGoroutine") = false) (h4 : I.ext f = none) (h5 : fd.params.size = vs.length ∧ fd.nfree = 0)
    (h : Runs I (f, fd, outs.length) [.code c] (initSt vs outs) (fun r => Relax r.1 v ∧ r.2 = o)) : Contract P f vs outs (v, o) := by
  obtain ⟨n, ⟨r1, r2⟩, h, hq, rfl⟩ := h
  refine Contract.relax (v := r1) (call_contract (n := n) hok hext ?_) hq
  unfold call
  simp only [h1, h2, h3, h4]
  rw [if_pos trivial, if_pos h5]
  exact h
/-- Contracts, one by one. -/
abbrev Ext := List V → List (List V) → Option R
/-- What must hold where a function is called, and what it answers. -/
structure ExtF where
  pre : List V → List (List V) → Bool
  ans : Ext
  /-- Which cells of its one box may change. -/
  touch : Option (List Nat) := none
  tok : ∀ l, touch = some l → ∀ (vs os : List V) (r : R), ans vs [os] = some r → ∃ cs, r.2 = [cs] ∧ cs.length = os.length ∧ ∀ i, i ∉ l → cs[i]? = os[i]? := by intro l h; cases h
def ex (e : Ext) : ExtF := { pre := fun _ _ => true, ans := e }
def touchOf (l : List (Nat × ExtF)) (f : Nat) : Option (List Nat) := (getA l f).bind ExtF.touch
def extOf (l : List (Nat × ExtF)) (f : Nat) : Option Ext := (getA l f).map ExtF.ans
def preOf (l : List (Nat × ExtF)) (f : Nat) (vs : List V) (outs : List (List V)) : Bool := match getA l f with | some x => x.pre vs outs | none => true
def ExtAll (P : Program) (l : List (Nat × ExtF)) : Prop := ∀ (f : Nat) (x : ExtF) (vs : List V) (outs : List (List V)) (r : R), getA l f = some x → x.pre vs outs = true → x.ans vs outs = some r → Contract P f vs outs r
theorem ExtAll.nil {P : Program} : ExtAll P [] := fun f e vs outs r h => by cases h
theorem ExtAll.cons {P : Program} {l : List (Nat × ExtF)} {f : Nat} {x : ExtF} (h : ∀ (vs : List V) (outs : List (List V)) (r : R), x.pre vs outs = true → x.ans vs outs = some r → Contract P f vs outs r) (hl : ExtAll P l) : ExtAll P ((f, x) :: l) := by
  intro f' x' vs outs r h1 h2 h3
  simp only [getA] at h1
  split at h1
  · rename_i hf; subst hf; cases h1; exact h vs outs r h2 h3
  · exact hl f' x' vs outs r h1 h2 h3
theorem ExtAll.add {P : Program} {l : List (Nat × ExtF)} {f : Nat} {e : Ext} (h : ∀ (vs : List V) (outs : List (List V)) (r : R), e vs outs = some r → Contract P f vs outs r) (hl : ExtAll P l) : ExtAll P ((f, ex e) :: l) :=
  .cons (fun vs outs r _ h2 => h vs outs r h2) hl
def infoL (P : Program) (l : List (Nat × ExtF)) (entry : Nat → Option (List V → Option Value)) (keep : Nat → Nat → Option (List Nat)) : Info := { infoWith P (extOf l) entry keep with pre := preOf l, touch := touchOf l }
theorem infoL_ok (P : Program) (l : List (Nat × ExtF)) (entry : Nat → Option (List V → Option Value)) (keep : Nat → Nat → Option (List Nat)) (hm : P.follows .mixedOrders = true) : InfoOk P (infoL P l entry keep) := by
  have h := infoWith_ok P (extOf l) entry keep hm
  exact ⟨h.und, h.size, h.zero, h.cts, h.bytes, h.zval, h.func, h.mixed, h.eqOk⟩
theorem infoL_ext {P : Program} {l : List (Nat × ExtF)} {entry : Nat → Option (List V → Option Value)} {keep : Nat → Nat → Option (List Nat)} (h : ExtAll P l) (he : ∀ (f : Nat) (e : List V → Option Value) (vs : List V) (c : Value), entry f = some e → e vs = some c → Entry P f vs c) : ExtOk P (infoL P l entry keep) where
  ext := fun f e vs outs r h1 h2 h3 => by
    have h1 : extOf l f = some e := h1
    have h2 : preOf l f vs outs = true := h2
    unfold extOf at h1
    unfold preOf at h2
    cases hx : getA l f with
    | none => rw [hx] at h1; cases h1
    | some x =>
      rw [hx] at h1 h2
      cases h1
      exact h f x vs outs r hx h2 h3
  entry := fun f e vs c h1 h2 => he f e vs c h1 h2
  touch := fun f l' h => by
    have h : (getA l f).bind ExtF.touch = some l' := h
    obtain ⟨x, hx, ht⟩ := Option.bind_eq_some_iff.1 h
    exact ⟨x.ans, by show (getA l f).map ExtF.ans = _; rw [hx]; rfl, x.tok l' ht⟩
end
end Go.Proofs.YtacfehneeanlgaaDoor.Ev
