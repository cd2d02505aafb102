/- A part of the proof: what the statement needs, and nothing else. -/
import Derived.Test.YtkcopbnaleiocaaZb9
namespace Go.Proofs.Ytkcopbnaleiocaa.Ev
open Go
set_option linter.unusedVariables false
set_option linter.unusedSimpArgs false
section
variable {I : Info}
theorem exec_succ : ∀ (n : Nat) (fn : Nat × Func × Nat) (k : List T) (σ : St) (r : R), exec I n fn k σ = some r → exec I (n + 1) fn k σ = some r
  | 0, _, _, _, _, h => by simp [exec] at h
  | n + 1, fn, k, σ, r, h => by
    have ih := exec_succ n
    match k with
    | [] => simpa only [exec] using h
    | .blk _ :: k => simp only [exec] at h ⊢; exact ih _ _ _ _ h
    | .scp _ :: k => simp only [exec] at h ⊢; exact ih _ _ _ _ h
    | .lp c :: k => simp only [exec] at h ⊢; exact ih _ _ _ _ h
    | .code c :: k =>
      cases c with
      | skip => simp only [exec] at h ⊢; exact ih _ _ _ _ h
      | label _ => simp only [exec] at h ⊢; exact ih _ _ _ _ h
      | seq a b => simp only [exec] at h ⊢; exact ih _ _ _ _ h
      | block id c => simp only [exec] at h ⊢; exact ih _ _ _ _ h
      | loop c => simp only [exec] at h ⊢; exact ih _ _ _ _ h
      | scope c => simp only [exec] at h ⊢; exact ih _ _ _ _ h
      | ret => simpa only [exec] using h
      | region id ops draw => simp only [exec] at h ⊢; exact ih _ _ _ _ h
      | exit id =>
        simp only [exec] at h ⊢
        cases he : exitT id k with
        | none => rw [he] at h; exact h
        | some k' => rw [he] at h; exact ih _ _ _ _ h
      | cond x a b =>
        simp only [exec] at h ⊢
        split at h
        · rename_i v hv
          cases v
          · exact ih _ _ _ _ h
          · exact ih _ _ _ _ h
        · cases h
      | _ => simp only [exec] at h; cases h
    | .ops id ops [] fp :: k =>
      simp only [exec] at h ⊢
      split at h
      · exact ih _ _ _ _ h
      · cases h
    | .ops id ops (i :: rest) fp :: k =>
      simp only [exec] at h ⊢
      split at h
      · cases h
      rename_i o ho
      split at h
      · cases h
      rename_i hf
      rw [if_neg hf]
      have body : ∀ (g : Option (Nat × Bool)) (σ : St), (match o.op with
        | .call { callee := .value x, args, .. } => match calleeOf σ x with
          | none => none
          | some f => match (callM f args.toList).run σ with
            | none => none
            | some (f, vs, ks, outs, ws) => match I.entry f with
              | some e => match e vs, outs with
                | some c, [] => exec I n fn (.ops id ops rest (note fp i (guardRead g ++ (calleeReads x ++ (callM f args.toList).reads σ)) (ws ++ dstW o.dst (.val c))) :: k) (σ.puts (ws ++ dstW o.dst (.val c)))
                | _, _ => none
              | none => match I.pre f vs outs with
                | true => (match I.func f with
                | some fd => match fd.body with
                  | some c => if (fd.name == "runtime.NumGoroutine") = false then
                      match I.ext f with
                      | some e => e vs outs
                      | none => if fd.params.size = vs.length ∧ fd.nfree = 0 then exec I n (f, fd, outs.length) [.code c] (initSt vs outs) else none
                    else none
                  | none => none
                | none => none).bind fun (r : R) =>
                exec I n fn (.ops id ops rest (note fp i (guardRead g ++ (calleeReads x ++ (callM f args.toList).reads σ)) (ws ++ (touchW (I.touch f) ks outs r.2 ++ dstW o.dst (backV ks r.1)))) :: k) (σ.puts (ws ++ (touchW (I.touch f) ks outs r.2 ++ dstW o.dst (backV ks r.1))))
                | false => none
        | _ => (opM I ops o).runK σ fun p => match p.1 with
          | true => exec I n fn (.ops id ops rest (note fp i (guardRead g ++ (opM I ops o).reads σ) p.2) :: k) (σ.puts p.2)
          | false => none) = some r → (match o.op with
        | .call { callee := .value x, args, .. } => match calleeOf σ x with
          | none => none
          | some f => match (callM f args.toList).run σ with
            | none => none
            | some (f, vs, ks, outs, ws) => match I.entry f with
              | some e => match e vs, outs with
                | some c, [] => exec I (n + 1) fn (.ops id ops rest (note fp i (guardRead g ++ (calleeReads x ++ (callM f args.toList).reads σ)) (ws ++ dstW o.dst (.val c))) :: k) (σ.puts (ws ++ dstW o.dst (.val c)))
                | _, _ => none
              | none => match I.pre f vs outs with
                | true => (match I.func f with
                | some fd => match fd.body with
                  | some c => if (fd.name == "runtime.NumGoroutine") = false then
                      match I.ext f with
                      | some e => e vs outs
                      | none => if fd.params.size = vs.length ∧ fd.nfree = 0 then exec I (n + 1) (f, fd, outs.length) [.code c] (initSt vs outs) else none
                    else none
                  | none => none
                | none => none).bind fun (r : R) =>
                exec I (n + 1) fn (.ops id ops rest (note fp i (guardRead g ++ (calleeReads x ++ (callM f args.toList).reads σ)) (ws ++ (touchW (I.touch f) ks outs r.2 ++ dstW o.dst (backV ks r.1)))) :: k) (σ.puts (ws ++ (touchW (I.touch f) ks outs r.2 ++ dstW o.dst (backV ks r.1))))
                | false => none
        | _ => (opM I ops o).runK σ fun p => match p.1 with
          | true => exec I (n + 1) fn (.ops id ops rest (note fp i (guardRead g ++ (opM I ops o).reads σ) p.2) :: k) (σ.puts p.2)
          | false => none) = some r := by
        intro g σ h
        split at h
        · rename_i x args ats hop
          split at h
          · cases h
          rename_i f hcal
          split at h
          · cases h
          rename_i f' vs ks outs ws hrun
          try simp only [hop, hcal, hrun]
          split at h
          · rename_i e hent
            split at h
            · rename_i c hec
              try simp only [hent, hec]
              exact ih _ _ _ _ h
            · cases h
          · rename_i hent
            try simp only [hent]
            split at h
            case h_2 => cases h
            rename_i hpre
            try simp only [hpre]
            rw [Option.bind_eq_some_iff] at h ⊢
            obtain ⟨r1, hr1, h⟩ := h
            refine ⟨r1, ?_, ih _ _ _ _ h⟩
            split at hr1
            · rename_i fd hfd
              split at hr1
              · rename_i c hc
                split at hr1
                · rename_i hname
                  try simp only [hfd, hc, hname]
                  split at hr1
                  · rename_i e he
                    try simp only [he]
                    rw [if_pos trivial]
                    exact hr1
                  · rename_i he
                    split at hr1
                    · rename_i hp
                      try simp only [he]
                      rw [if_pos trivial, if_pos hp]
                      exact ih _ _ _ _ hr1
                    · cases hr1
                · cases hr1
              · cases hr1
            · cases hr1
        · rename_i hnot
          rw [M.runK_eq, Option.bind_eq_some_iff] at h ⊢
          obtain ⟨⟨ok, ws⟩, hrun, h⟩ := h
          refine ⟨(ok, ws), hrun, ?_⟩
          cases ok with
          | false => cases h
          | true => exact ih _ _ _ _ h
      split at h
      · rename_i hgu
        try simp only [hgu]
        exact body none _ h
      · rename_i q hgu
        split at h
        · cases h
        rename_i t want hg
        try simp only [hgu, hg]
        split at h
        · rename_i b hv
          cases b with
          | true =>
            cases want with
            | true => rw [if_pos rfl] at h ⊢; exact body _ _ h
            | false => rw [if_neg (by simp)] at h ⊢; exact ih _ _ _ _ h
          | false =>
            cases want with
            | true => rw [if_pos rfl] at h ⊢; exact ih _ _ _ _ h
            | false => rw [if_neg (by simp)] at h ⊢; exact body _ _ h
        · rename_i v _ hv
          cases hb : isBool v with
          | true => rw [hb] at h; cases h
          | false =>
            rw [hb] at h
            exact ih _ _ _ _ h
        · cases h
theorem exec_mono {n m : Nat} (h : n ≤ m) {fn : Nat × Func × Nat} {k : List T} {σ : St} {r : R} (hx : exec I n fn k σ = some r) : exec I m fn k σ = some r := by
  induction m with
  | zero => have : n = 0 := by omega
            subst this; exact hx
  | succ m ih =>
    by_cases e : n = m + 1
    · subst e; exact hx
    · exact exec_succ m _ _ _ _ (ih (by omega))
def Runs (I : Info) (fn : Nat × Func × Nat) (k : List T) (σ : St) (Q : R → Prop) : Prop := ∃ n r, exec I n fn k σ = some r ∧ Q r
inductive Tr where
  | ret (r : R)
  | fail
  | go (j : Nat) (k : List T) (σ : St)
  | ask (b : Bool) (t f : Tr)
def Tr.val (I : Info) (fn : Nat × Func × Nat) (n : Nat) : Tr → Option R
  | .ret r => some r
  | .fail => none
  | .go j k σ => exec I (n + j) fn k σ
  | .ask b t f => match b with
    | true => t.val I fn n
    | false => f.val I fn n
def Tr.prop (I : Info) (fn : Nat × Func × Nat) (Q : R → Prop) : Tr → Prop
  | .ret r => Q r
  | .fail => False
  | .go _ k σ => Runs I fn k σ Q
  | .ask b t f => (b = true → t.prop I fn Q) ∧ (b = false → f.prop I fn Q)
theorem Tr.sound {fn : Nat × Func × Nat} {Q : R → Prop} : ∀ {t : Tr}, t.prop I fn Q → ∃ n r, t.val I fn n = some r ∧ Q r
  | .ret r', h => ⟨0, r', rfl, h⟩
  | .fail, h => h.elim
  | .go j k σ, ⟨n, r, h, hq⟩ => ⟨n, r, exec_mono (Nat.le_add_right n j) h, hq⟩
  | .ask true t f, h => Tr.sound (t := t) (h.1 rfl)
  | .ask false t f, h => Tr.sound (t := f) (h.2 rfl)
theorem Runs.of {fn : Nat × Func × Nat} {k : List T} {σ : St} {Q : R → Prop} {t : Tr} {K : Nat} (e : ∀ n, exec I (n + K) fn k σ = t.val I fn n) (h : t.prop I fn Q) : Runs I fn k σ Q := by
  obtain ⟨n, r, h, hq⟩ := Tr.sound h
  exact ⟨n + K, r, (e n).trans h, hq⟩
theorem ask {fn : Nat × Func × Nat} {Q : R → Prop} {b : Bool} {t f : Tr} (h1 : b = true → t.prop I fn Q) (h2 : b = false → f.prop I fn Q) : (Tr.ask b t f).prop I fn Q := ⟨h1, h2⟩
theorem askT {fn : Nat × Func × Nat} {Q : R → Prop} {b : Bool} {t f : Tr} (h : b = true) (h1 : t.prop I fn Q) : (Tr.ask b t f).prop I fn Q := ⟨fun _ => h1, fun e => absurd (h.symm.trans e) (by simp)⟩
theorem askF {fn : Nat × Func × Nat} {Q : R → Prop} {b : Bool} {t f : Tr} (h : b = false) (h1 : f.prop I fn Q) : (Tr.ask b t f).prop I fn Q := ⟨fun e => absurd (h.symm.trans e) (by simp), fun _ => h1⟩
def cellI (xs : List (List D)) (i j : Nat) : Int := ((xs.getD i []).getD j default).toInt
def cellB (xs : List (List D)) (i j : Nat) : Bool := ((xs.getD i []).getD j default).toBool
def cellS (xs : List (List D)) (i j : Nat) : ByteArray := ((xs.getD i []).getD j default).toStr
def cellA (xs : List (List D)) (i j : Nat) : List (List D) := ((xs.getD i []).getD j default).toArr
def sub : Code → List Nat → Code
  | c, [] => c
  | .seq a _, 0 :: p => sub a p
  | .seq _ b, _ :: p => sub b p
  | .cond _ a _, 0 :: p => sub a p
  | .cond _ _ b, _ :: p => sub b p
  | .block _ c, _ :: p => sub c p
  | .loop c, _ :: p => sub c p
  | .scope c, _ :: p => sub c p
  | c, _ => c
def bodyOf (f : Func) : Code := f.body.getD .skip
inductive Rx1 : V → V → Prop
  | refl (v : V) : Rx1 v v
  | nilOwn (cs : List CT) : Rx1 (.val nilSlice) (.own cs [])
  | nilArr (cs : List CT) : Rx1 (.val nilSlice) (.arr cs [])
  | ownArr (cs : List CT) (xs : List (List D)) : Rx1 (.own cs xs) (.arr cs xs)
inductive Rx2 : V → V → Prop
  | one {v v' : V} (h : Rx1 v v') : Rx2 v v'
  | nilUni (cs : List CT) : Rx2 (.val nilSlice) (.uni cs [])
  | agg {vs vs' : List V} (hl : vs.length = vs'.length) (h : ∀ (i : Nat) (v v' : V), vs[i]? = some v → vs'[i]? = some v' → Rx1 v v') : Rx2 (.agg vs) (.agg vs')
inductive Relax : V → V → Prop
  | one {v v' : V} (h : Rx2 v v') : Relax v v'
  | tup {vs vs' : List V} (hl : vs.length = vs'.length) (h : ∀ (i : Nat) (v v' : V), vs[i]? = some v → vs'[i]? = some v' → Rx2 v v') : Relax (.tup vs) (.tup vs')
  | agg {vs vs' : List V} (hl : vs.length = vs'.length) (h : ∀ (i : Nat) (v v' : V), vs[i]? = some v → vs'[i]? = some v' → Rx1 v v') : Relax (.agg vs) (.agg vs')
theorem Rx1.rel {v v' : V} (hr : Rx1 v v') {g : Gh} {w : World} {s : Slot} {c : Value} (h : VRel g w s v c) : VRel g w s v' c := by
  cases hr with
  | refl => exact h
  | nilOwn cs => rw [val_inv h]; exact .own _ _ _ _ (.nil _ _ _ rfl) (.inl rfl)
  | nilArr cs => rw [val_inv h]; exact .arr _ _ _ _ (.nil _ _ _ rfl)
  | ownArr cs xs => exact .arr _ _ _ _ (own_d h)
theorem Rx1.res {v v' : V} (hr : Rx1 v v') (h : v.res) : v'.res := by cases hr <;> first | exact h | trivial
theorem Rx1.flat {v v' : V} (hr : Rx1 v v') (h : v.flat) : v'.flat := by cases hr <;> first | exact h | trivial
theorem Rx1.cellP {v v' : V} (hr : Rx1 v v') (h : v.cellP) : v'.cellP := by cases hr <;> first | exact h | trivial
theorem Rx1.back {no : Nat} {v v' : V} (hr : Rx1 v v') (h : v.back no) : v'.back no := by cases hr <;> first | exact h | trivial
theorem Rx1.back1 {v v' : V} (hr : Rx1 v v') (h : v.back1) : v'.back1 := by cases hr <;> first | exact h | trivial
theorem Rx2.rel {v v' : V} (hr : Rx2 v v') {g : Gh} {w : World} {s : Slot} {c : Value} (h : VRel g w s v c) : VRel g w s v' c := by
  cases hr with
  | one hr => exact hr.rel h
  | nilUni cs => rw [val_inv h]; exact .uni _ _ _ _ (.inl ⟨rfl, rfl⟩)
  | agg hl hr =>
    rename_i vs vs'
    generalize hv : V.agg vs = u at h
    cases h with
    | agg _ us cs hl' hn hx =>
      cases hv
      have pre : ∀ (i : Nat) (v' : V), vs'[i]? = some v' → ∃ v, vs[i]? = some v := fun i v' hv' => by
        have : i < vs.length := by rw [hl]; exact (List.getElem?_eq_some_iff.1 hv').1
        exact ⟨_, List.getElem?_eq_getElem this⟩
      refine .agg _ _ cs (hl.symm.trans hl') (fun i v' hv' => ?_) (fun i v' c hv' hc => ?_)
      · obtain ⟨v, hv⟩ := pre i v' hv'
        exact (hr i v v' hv hv').cellP (hn i v hv)
      · obtain ⟨v, hv⟩ := pre i v' hv'
        exact (hr i v v' hv hv').rel (hx i v c hv hc)
    | _ => cases hv
theorem Rx2.flats {vs vs' : List V} (hl : vs.length = vs'.length) (hr : ∀ (i : Nat) (v v' : V), vs[i]? = some v → vs'[i]? = some v' → Rx1 v v') (h : ∀ v ∈ vs, v.flat) : ∀ v ∈ vs', v.flat := by
  intro u hu
  obtain ⟨i, hi, rfl⟩ := List.getElem_of_mem hu
  have hi' : i < vs.length := by rw [hl]; exact hi
  exact (hr i _ _ (List.getElem?_eq_getElem hi') (List.getElem?_eq_getElem hi)).flat (h _ (List.getElem_mem hi'))
theorem Rx2.res {v v' : V} (hr : Rx2 v v') (h : v.res) : v'.res := by
  cases hr with
  | one hr => exact hr.res h
  | nilUni => trivial
  | agg => exact h
theorem Rx2.back {no : Nat} {v v' : V} (hr : Rx2 v v') (h : v.back no) : v'.back no := by
  cases hr with
  | one hr => exact hr.back h
  | nilUni => trivial
  | agg hl hr => exact Rx2.flats hl hr h
theorem Rx2.back1 {v v' : V} (hr : Rx2 v v') (h : v.back1) : v'.back1 := by
  cases hr with
  | one hr => exact hr.back1 h
  | nilUni => trivial
  | agg hl hr => exact Rx2.flats hl hr h
theorem Relax.back {no : Nat} {v v' : V} (hr : Relax v v') (h : v.back no) : v'.back no := by
  cases hr with
  | one hr => exact hr.back h
  | tup hl hr =>
    rename_i vs vs'
    intro u hu
    obtain ⟨i, hi, rfl⟩ := List.getElem_of_mem hu
    have hi' : i < vs.length := by rw [hl]; exact hi
    exact (hr i _ _ (List.getElem?_eq_getElem hi') (List.getElem?_eq_getElem hi)).back1 (h _ (List.getElem_mem hi'))
  | agg hl hr =>
    rename_i vs vs'
    intro u hu
    obtain ⟨i, hi, rfl⟩ := List.getElem_of_mem hu
    have hi' : i < vs.length := by rw [hl]; exact hi
    exact (hr i _ _ (List.getElem?_eq_getElem hi') (List.getElem?_eq_getElem hi)).flat (h _ (List.getElem_mem hi'))
theorem Relax.rel {v v' : V} (hr : Relax v v') {g : Gh} {w : World} {s : Slot} {c : Value} (h : VRel g w s v c) : VRel g w s v' c := by
  cases hr with
  | one hr => exact hr.rel h
  | tup hl hr =>
    rename_i vs vs'
    generalize hv : V.tup vs = u at h
    cases h with
    | tup _ us cs hl' hn hx =>
      cases hv
      have pre : ∀ (i : Nat) (v' : V), vs'[i]? = some v' → ∃ v, vs[i]? = some v := fun i v' hv' => by
        have : i < vs.length := by rw [hl]; exact (List.getElem?_eq_some_iff.1 hv').1
        exact ⟨_, List.getElem?_eq_getElem this⟩
      refine .tup _ _ cs (hl.symm.trans hl') (fun i v' hv' => ?_) (fun i v' c hv' hc => ?_)
      · obtain ⟨v, hv⟩ := pre i v' hv'
        exact (hr i v v' hv hv').res (hn i v hv)
      · obtain ⟨v, hv⟩ := pre i v' hv'
        exact (hr i v v' hv hv').rel (hx i v c hv hc)
    | _ => cases hv
  | agg hl hr =>
    rename_i vs vs'
    generalize hv : V.agg vs = u at h
    cases h with
    | agg _ us cs hl' hn hx =>
      cases hv
      have pre : ∀ (i : Nat) (v' : V), vs'[i]? = some v' → ∃ v, vs[i]? = some v := fun i v' hv' => by
        have : i < vs.length := by rw [hl]; exact (List.getElem?_eq_some_iff.1 hv').1
        exact ⟨_, List.getElem?_eq_getElem this⟩
      refine .agg _ _ cs (hl.symm.trans hl') (fun i v' hv' => ?_) (fun i v' c hv' hc => ?_)
      · obtain ⟨v, hv⟩ := pre i v' hv'
        exact (hr i v v' hv hv').cellP (hn i v hv)
      · obtain ⟨v, hv⟩ := pre i v' hv'
        exact (hr i v v' hv hv').rel (hx i v c hv hc)
    | _ => cases hv
theorem Contract.relax {P : Program} {f : Nat} {vs : List V} {outs o : List (List V)} {v v' : V} (h : Contract P f vs outs (v, o)) (hr : Relax v v') : Contract P f vs outs (v', o) := by
  intro g w cargs hh
  refine (h g w cargs hh).mono fun e w' ⟨c, g', he, q1, q2, q3⟩ => ⟨c, g', he, hr.rel q1, hr.back q2, q3⟩
def castV : Option (List CT) → V → V
  | some cs, .val (.slice none 0 0) => .arr cs []
  | some _, .own c xs => .arr c xs
  | _, v => v
def castArgs : List (Option (List CT)) → List V → List V
  | k :: ks, v :: vs => castV k v :: castArgs ks vs
  | _, vs => vs
theorem castV_rel (k : Option (List CT)) {v : V} {g : Gh} {w : World} {s : Slot} {c : Value} (h : VRel g w s v c) : VRel g w s (castV k v) c := by
  unfold castV
  split
  · rw [val_inv h]; exact .arr _ _ _ _ (.nil _ _ _ rfl)
  · exact .arr _ _ _ _ (own_d h)
  · exact h
theorem castArgs_get : ∀ (ks : List (Option (List CT))) (vs : List V) (i : Nat) (v' : V), (castArgs ks vs)[i]? = some v' → ∃ v, vs[i]? = some v ∧ ∀ {g : Gh} {w : World} {s : Slot} {c : Value}, VRel g w s v c → VRel g w s v' c
  | [], vs, i, v', h => ⟨v', by simpa [castArgs] using h, fun h => h⟩
  | k :: ks, [], i, v', h => by simp [castArgs] at h
  | k :: ks, v :: vs, 0, v', h => by
    simp only [castArgs, List.getElem?_cons_zero, Option.some.injEq] at h
    subst h
    exact ⟨v, rfl, castV_rel k⟩
  | k :: ks, v :: vs, i + 1, v', h => by
    simp only [castArgs, List.getElem?_cons_succ] at h
    obtain ⟨u, hu, hx⟩ := castArgs_get ks vs i v' h
    exact ⟨u, by simpa using hu, hx⟩
theorem castArgs_length : ∀ (ks : List (Option (List CT))) (vs : List V), (castArgs ks vs).length = vs.length
  | [], _ => by simp [castArgs]
  | _ :: _, [] => by simp [castArgs]
  | _ :: ks, _ :: vs => by simp [castArgs, castArgs_length ks vs]
theorem contract_of_runs {P : Program} (hok : InfoOk P I) (hext : ExtOk P I) {f : Nat} {fd : Func} {c : Code} {vs : List V} {outs o : List (List V)} {v : V} (h1 : I.func f = some fd) (h2 : fd.body = some c) (h3 : (fd.name == "runtime.NumGoroutine") = false) (h4 : I.ext f = none) (h5 : fd.params.size = vs.length ∧ fd.nfree = 0)
    (h : Runs I (f, fd, outs.length) [.code c] (initSt vs outs) (fun r => Relax r.1 v ∧ r.2 = o)) : Contract P f vs outs (v, o) := by
  obtain ⟨n, ⟨r1, r2⟩, h, hq, rfl⟩ := h
  refine Contract.relax (v := r1) (call_contract (n := n) hok hext ?_) hq
  unfold call
  simp only [h1, h2, h3, h4]
  rw [if_pos trivial, if_pos h5]
  exact h
abbrev Ext := List V → List (List V) → Option R
structure ExtF where
  pre : List V → List (List V) → Bool
  ans : Ext
  /-- Which cells of its one box may change. -/
  touch : Option (List Nat) := none
  tok : ∀ l, touch = some l → ∀ (vs os : List V) (r : R), ans vs [os] = some r → ∃ cs, r.2 = [cs] ∧ cs.length = os.length ∧ ∀ i, i ∉ l → cs[i]? = os[i]? := by intro l h; cases h
def ex (e : Ext) : ExtF := { pre := fun _ _ => true, ans := e }
def touchOf (l : List (Nat × ExtF)) (f : Nat) : Option (List Nat) := (getA l f).bind ExtF.touch
def extOf (l : List (Nat × ExtF)) (f : Nat) : Option Ext := (getA l f).map ExtF.ans
def preOf (l : List (Nat × ExtF)) (f : Nat) (vs : List V) (outs : List (List V)) : Bool := match getA l f with | some x => x.pre vs outs | none => true
def ExtAll (P : Program) (l : List (Nat × ExtF)) : Prop := ∀ (f : Nat) (x : ExtF) (vs : List V) (outs : List (List V)) (r : R), getA l f = some x → x.pre vs outs = true → x.ans vs outs = some r → Contract P f vs outs r
theorem ExtAll.nil {P : Program} : ExtAll P [] := fun f e vs outs r h => by cases h
theorem ExtAll.cons {P : Program} {l : List (Nat × ExtF)} {f : Nat} {x : ExtF} (h : ∀ (vs : List V) (outs : List (List V)) (r : R), x.pre vs outs = true → x.ans vs outs = some r → Contract P f vs outs r) (hl : ExtAll P l) : ExtAll P ((f, x) :: l) := by
  intro f' x' vs outs r h1 h2 h3
  simp only [getA] at h1
  split at h1
  · rename_i hf; subst hf; cases h1; exact h vs outs r h2 h3
  · exact hl f' x' vs outs r h1 h2 h3
theorem ExtAll.add {P : Program} {l : List (Nat × ExtF)} {f : Nat} {e : Ext} (h : ∀ (vs : List V) (outs : List (List V)) (r : R), e vs outs = some r → Contract P f vs outs r) (hl : ExtAll P l) : ExtAll P ((f, ex e) :: l) :=
  .cons (fun vs outs r _ h2 => h vs outs r h2) hl
def infoL (P : Program) (l : List (Nat × ExtF)) (entry : Nat → Option (List V → Option Value)) (keep : Nat → Nat → Option (List Nat)) : Info := { infoWith P (extOf l) entry keep with pre := preOf l, touch := touchOf l }
theorem infoL_ok (P : Program) (l : List (Nat × ExtF)) (entry : Nat → Option (List V → Option Value)) (keep : Nat → Nat → Option (List Nat)) (hm : P.follows .mixedOrders = true) : InfoOk P (infoL P l entry keep) := by
  have h := infoWith_ok P (extOf l) entry keep hm
  exact ⟨h.und, h.size, h.zero, h.cts, h.bytes, h.zval, h.func, h.mixed, h.eqOk⟩
theorem infoL_ext {P : Program} {l : List (Nat × ExtF)} {entry : Nat → Option (List V → Option Value)} {keep : Nat → Nat → Option (List Nat)} (h : ExtAll P l) (he : ∀ (f : Nat) (e : List V → Option Value) (vs : List V) (c : Value), entry f = some e → e vs = some c → Entry P f vs c) : ExtOk P (infoL P l entry keep) where
  ext := fun f e vs outs r h1 h2 h3 => by
    have h1 : extOf l f = some e := h1
    have h2 : preOf l f vs outs = true := h2
    unfold extOf at h1
    unfold preOf at h2
    cases hx : getA l f with
    | none => rw [hx] at h1; cases h1
    | some x =>
      rw [hx] at h1 h2
      cases h1
      exact h f x vs outs r hx h2 h3
  entry := fun f e vs c h1 h2 => he f e vs c h1 h2
  touch := fun f l' h => by
    have h : (getA l f).bind ExtF.touch = some l' := h
    obtain ⟨x, hx, ht⟩ := Option.bind_eq_some_iff.1 h
    exact ⟨x.ans, by show (getA l f).map ExtF.ans = _; rw [hx]; rfl, x.tok l' ht⟩
end
end Go.Proofs.Ytkcopbnaleiocaa.Ev
namespace Go.Proofs.Ytkcopbnaleiocaa.Ev
open Go Go.ChangeShapes Go.WideShapes Go.RowKit
set_option linter.unusedVariables false
set_option linter.unusedSimpArgs false
inductive Good : CT → D → Prop
  | int (k : IntKind) (n : Int) (h : (Lit.int k n).wf = true) : Good (.int k) (.int n)
  | bool (b : Bool) : Good .bool (.bool b)
  | str (s : ByteArray) (h : s.size ≤ 140737488351232) : Good .str (.str s)
  | arr (cs : List CT) (xs : List (List D)) (hl : xs.length ≤ 140737488351232) (hn : ∀ e ∈ xs, e.length = cs.length) (h : ∀ e ∈ xs, ∀ (j : Nat) (c : CT), cs[j]? = some c → Good c (e.getD j default)) : Good (.arr cs) (.arr xs)
abbrev allSt : Nat → Nat → Prop := fun _ _ => True
def Reads (w : World) (cts : List CT) (ds : List D) (cs : List Value) : Prop :=
  ds.length = cts.length ∧ cs.length = cts.length ∧ ∀ (j : Nat) (c : CT) (v : Value), cts[j]? = some c → cs[j]? = some v → DRel allSt w c (ds.getD j default) v ∧ Good c (ds.getD j default)
structure Opn (P : Program) (cts : List CT) (t : TypeId) : Prop where
  cells : P.cellsOf t = cts.length
  opened : ∀ {H : Type} {enc : TypeId × Value → H} {w : World} {base : Nat} {held : Bool} {fuel : Nat} {cs : List Value} {D : DataW H} {ps : List MemPlace}, DataW.trod enc P w base (fun _ => true) held fuel t cs = some (D, ps) → (∀ n ∈ D.weights P t, n ≤ reachBytes) → ∃ ds, Reads w cts ds cs
section
variable {P : Program} {t e : TypeId}
theorem opn_one {ct : CT} {v : Value} {d : D} {w : World} (h1 : DRel allSt w ct d v) (h2 : Good ct d) : Reads w [ct] [d] [v] := by
  refine ⟨rfl, rfl, fun j c v' hc hv => ?_⟩
  match j with
  | 0 => simp only [List.getElem?_cons_zero, Option.some.injEq] at hc hv; subst hc; subst hv; exact ⟨h1, h2⟩
  | j + 1 => simp at hc
theorem opn_int {k : IntKind} (ht : P.underlying t = some (.int k)) (hc : P.cellsOf t = 1) : Opn P [.int k] t :=
  ⟨hc, fun h _ => by obtain ⟨n, rfl, _, hw⟩ := DataW.trod_int ht h; exact ⟨[.int n], opn_one (.int k (.int n)) (.int k n hw)⟩⟩
theorem opn_bool (ht : P.underlying t = some .bool) (hc : P.cellsOf t = 1) : Opn P [.bool] t :=
  ⟨hc, fun h _ => by obtain ⟨b, rfl, _⟩ := DataW.trod_bool ht h; exact ⟨[.bool b], opn_one (.bool (.bool b)) (.bool b)⟩⟩
theorem opn_str (ht : P.underlying t = some .string) (hc : P.cellsOf t = 1) : Opn P [.str] t :=
  ⟨hc, fun h hw => by
    obtain ⟨s, rfl, hx, _⟩ := DataW.trod_string ht h
    cases hx
    have := hw s.data.toList.length (by simp [DataW.weights])
    exact ⟨[.str s], opn_one (.str (.str s)) (.str s (by simpa [reachBytes] using this))⟩⟩
theorem list_of_each {α : Type} {p : Nat → α → Prop} : ∀ (n : Nat), (∀ i, i < n → ∃ x, p i x) → ∃ xs : List α, xs.length = n ∧ ∀ i x, xs[i]? = some x → p i x
  | 0, _ => ⟨[], rfl, fun i x h => by simp at h⟩
  | n + 1, h => by
    obtain ⟨xs, hl, hx⟩ := list_of_each n (fun i hi => h i (by omega))
    obtain ⟨y, hy⟩ := h n (by omega)
    refine ⟨xs ++ [y], by simp [hl], fun i x hi => ?_⟩
    by_cases hlt : i < n
    · rw [List.getElem?_append_left (by omega)] at hi
      exact hx i x hi
    · obtain ⟨hi2, rfl⟩ := List.getElem?_eq_some_iff.1 hi
      simp [hl] at hi2
      have : i = n := by omega
      subst this
      simpa [hl] using hy
theorem add_add' (a : Addr) (i j : Nat) : (a.add i).add j = a.add (i + j) := by
  unfold Addr.add
  by_cases h1 : i = 0 <;> by_cases h2 : j = 0 <;> simp [h1, h2, Nat.add_assoc]
theorem weightsAll_mem {H : Type} {d : DataW H} {n : Nat} : ∀ {ds : List (DataW H)}, d ∈ ds → n ∈ d.weights P e → n ∈ DataW.weightsAll P e ds
  | d0 :: ds, hd, hn => by
    simp only [DataW.weightsAll, List.mem_append]
    rcases List.mem_cons.1 hd with rfl | hd
    · exact .inl hn
    · exact .inr (weightsAll_mem hd hn)
theorem plain_of_cell {w : World} {a : Addr} {v : Value} (h : w.cell? a = some v) : a = pl a.block a.off := by
  obtain ⟨b, o, s⟩ := a
  cases s with
  | none => rfl
  | some s =>
    unfold World.cell? at h
    split at h <;> simp at h
theorem opn_slice {cts : List CT} (ht : P.underlying t = some (.slice e)) (hc : P.cellsOf t = 1) (hB : 1 ≤ P.bytesOf e) (hp : 0 < cts.length) (he : Opn P cts e) : Opn P [.arr cts] t := by
  refine ⟨hc, fun {H enc w base held fuel cs D ps} h hw => ?_⟩
  rcases DataW.trod_slice ht h with ⟨rfl, _⟩ | ⟨a, len, cap, elems, rest, n, rfl, rfl, hx, hb, hl, hm, hlen, hel, hsp, _⟩
  · exact ⟨[.arr []], opn_one (.nil _ _ _ rfl) (.arr _ _ (by simp) (by simp) (by simp))⟩
  · cases hx
    have hw0 := hw ((elems.map (·.1)).length + (rest.map (·.1)).length |> (· * P.bytesOf e)) (by simp [DataW.weights, ht])
    obtain ⟨hr1, hr2⟩ := hsp rfl
    by_cases hcap : cap = 0
    · subst hcap
      have : len = 0 := by omega
      subst this
      exact ⟨[.arr []], opn_one (.nil _ _ _ rfl) (.arr _ _ (by simp) (by simp) (by simp))⟩
    have ha : a = pl a.block a.off := by
      have first : ∀ (i : Nat) (y : DataW H × List MemPlace), (w.cells? base (a.add (0 * P.cellsOf e)) (P.cellsOf e)).bind (DataW.trod enc P w base (fun _ => true) held n e) = some y → a = pl a.block a.off := by
        intro i y hy
        obtain ⟨c, h1, h2⟩ := Option.bind_eq_some_iff.1 hy
        obtain ⟨_, hcl, hcell⟩ := World.cells?_some h1
        have hpos : 0 < P.cellsOf e := by rw [he.cells]; exact hp
        have h0 := hcell 0 hpos
        have e0 : (a.add (0 * P.cellsOf e)).add 0 = a := by simp [Addr.add]
        rw [e0] at h0
        rw [List.getElem?_eq_getElem (by omega)] at h0
        exact plain_of_cell h0
      by_cases hl0 : len = 0
      · subst hl0
        have h1 := hr2 0 (by omega)
        rw [List.getElem?_eq_getElem (by omega)] at h1
        exact first 0 _ h1
      · have h1 := hel 0 (by omega)
        rw [List.getElem?_eq_getElem (by omega)] at h1
        exact first 0 _ h1
    have each : ∀ i, i < len → ∃ x, (∃ c, Reads w cts x c ∧ ∀ j u, c[j]? = some u → w.cell? (a.add (i * cts.length + j)) = some u) := by
      intro i hi
      have hk := hel i hi
      rw [List.getElem?_eq_getElem (by omega)] at hk
      obtain ⟨c, h1, h2⟩ := Option.bind_eq_some_iff.1 hk
      obtain ⟨x, hK⟩ := he.opened (D := elems[i].1) (ps := elems[i].2) h2 (fun m hm' => hw m (by
        simp only [DataW.weights, ht, List.mem_cons, List.mem_append]
        exact .inr (.inl (weightsAll_mem (List.mem_map.2 ⟨elems[i], List.getElem_mem _, rfl⟩) hm'))))
      obtain ⟨_, hcl, hcell⟩ := World.cells?_some h1
      refine ⟨x, c, hK, fun j u hj => ?_⟩
      obtain ⟨hjl, _⟩ := List.getElem?_eq_some_iff.1 hj
      have := hcell j (by omega)
      rw [add_add', he.cells] at this
      rw [this, hj]
    obtain ⟨xs, hxl, hxs⟩ := list_of_each len each
    subst hxl
    have hcell : ∀ i j, i < xs.length → j < cts.length → ∃ v, w.cell? (pl a.block (a.off + i * cts.length + j)) = some v ∧ ∀ c, cts[j]? = some c → DRel allSt w c ((xs.getD i []).getD j default) v ∧ Good c ((xs.getD i []).getD j default) := by
      intro i j hi hj
      obtain ⟨c, ⟨h1, h2, h3⟩, h4⟩ := hxs i _ (List.getElem?_eq_getElem hi)
      have hj' : j < c.length := by omega
      have h5 := h4 j _ (List.getElem?_eq_getElem hj')
      refine ⟨c[j], ?_, fun ct hct => ?_⟩
      · rw [ha] at h5
        rw [← h5]
        congr 1
        rw [pl_add]
        simp [Nat.add_assoc]
      · have := h3 j ct _ hct (List.getElem?_eq_getElem hj')
        rw [List.getD_eq_getElem?_getD (l := xs), List.getElem?_eq_getElem hi]
        exact this
    refine ⟨[.arr xs], opn_one ?_ (.arr _ _ ?_ (fun x hx => ?_) (fun x hx j c hc => ?_))⟩
    · rw [ha]
      refine .arr cts (.arr xs) a.block a.off cap (fun i j => (w.cell? (pl a.block (a.off + i * cts.length + j))).getD undef) hl hm (fun i j hi hj => ⟨trivial, ?_⟩) (fun i j c hi hc => ?_)
      · obtain ⟨v, hv, _⟩ := hcell i j hi hj
        rw [hv]; rfl
      · have hj : j < cts.length := (List.getElem?_eq_some_iff.1 hc).1
        obtain ⟨v, hv, h2⟩ := hcell i j hi hj
        rw [hv]
        exact (h2 c hc).1
    · have h2 : xs.length * 1 ≤ (elems.length + rest.length) * P.bytesOf e := Nat.mul_le_mul (by omega) hB
      simp only [List.length_map] at hw0
      have := Nat.le_trans h2 hw0
      simpa [reachBytes] using this
    · obtain ⟨i, hi, rfl⟩ := List.getElem_of_mem hx
      obtain ⟨c, ⟨h1, _⟩, _⟩ := hxs i _ (List.getElem?_eq_getElem hi)
      exact h1
    · obtain ⟨i, hi, rfl⟩ := List.getElem_of_mem hx
      have hj : j < cts.length := (List.getElem?_eq_some_iff.1 hc).1
      obtain ⟨v, _, h2⟩ := hcell i j hi hj
      have := (h2 c hc).2
      rw [List.getD_eq_getElem?_getD (l := xs), List.getElem?_eq_getElem hi] at this
      exact this
structure OpnFrom (P : Program) (cts : List CT) (fs : List Field) (off : Nat) : Prop where
  opened : ∀ {H : Type} {enc : TypeId × Value → H} {w : World} {base : Nat} {held : Bool} {n : Nat} {cs : List Value} {xs : List (DataW H × List MemPlace)}, cs.length = off + cts.length → xs.length = fs.length →
    (∀ (i : Nat) (f : Field), fs[i]? = some f → DataW.trod enc P w base (fun _ => true) held n f.type ((cs.drop f.offset).take (P.cellsOf f.type)) = xs[i]?) → (∀ m ∈ DataW.weightsEach P (fs.map (·.type)) (xs.map (·.1)), m ≤ reachBytes) → ∃ ds, Reads w cts ds (cs.drop off)
theorem from_nil {off : Nat} : OpnFrom P [] [] off := by
  refine ⟨fun {H enc w base held n cs xs} hl hx hf hw => ⟨[], rfl, by simp at hl; simp [hl], fun j c v hc => by simp at hc⟩⟩
theorem Reads.append {w : World} {c1 c2 : List CT} {d1 d2 : List D} {v1 v2 : List Value} (h1 : Reads w c1 d1 v1) (h2 : Reads w c2 d2 v2) : Reads w (c1 ++ c2) (d1 ++ d2) (v1 ++ v2) := by
  obtain ⟨a1, a2, a3⟩ := h1
  obtain ⟨b1, b2, b3⟩ := h2
  refine ⟨by simp [a1, b1], by simp [a2, b2], fun j c v hc hv => ?_⟩
  by_cases hj : j < c1.length
  · rw [List.getElem?_append_left hj] at hc
    rw [List.getElem?_append_left (by omega)] at hv
    have := a3 j c v hc hv
    rw [List.getD_eq_getElem?_getD, List.getElem?_append_left (by omega), ← List.getD_eq_getElem?_getD]
    exact this
  · rw [List.getElem?_append_right (by omega)] at hc hv
    rw [a2] at hv
    have := b3 _ c v hc hv
    rw [List.getD_eq_getElem?_getD, List.getElem?_append_right (by omega), a1, ← List.getD_eq_getElem?_getD]
    exact this
theorem from_cons {c1 c2 : List CT} {f : Field} {fs : List Field} {off : Nat} (ho : f.offset = off) (h : Opn P c1 f.type) (h' : OpnFrom P c2 fs (off + c1.length)) : OpnFrom P (c1 ++ c2) (f :: fs) off := by
  refine ⟨fun {H enc w base held n cs xs} hl hx hf hw => ?_⟩
  match xs, hx with
  | x :: xs, hx =>
    rw [List.length_append] at hl
    have h1 := hf 0 f rfl
    rw [ho, h.cells] at h1
    obtain ⟨y, hy⟩ := h.opened (D := x.1) (ps := x.2) h1 (fun m hm => hw m (by simp only [List.map_cons, DataW.weightsEach, List.mem_append]; exact .inl hm))
    obtain ⟨z, hz⟩ := h'.opened (cs := cs) (xs := xs) (by omega) (by simpa using hx) (fun i g hg => by have := hf (i + 1) g (by simpa using hg); simpa using this) (fun m hm => hw m (by simp only [List.map_cons, DataW.weightsEach, List.mem_append]; exact .inr hm))
    refine ⟨y ++ z, ?_⟩
    rw [← List.take_append_drop c1.length (cs.drop off), List.drop_drop]
    exact hy.append hz
theorem opn_struct {cts : List CT} {fs : Array Field} (ht : P.underlying t = some (.struct fs)) (hc : P.cellsOf t = cts.length) (h : OpnFrom P cts fs.toList 0) : Opn P cts t := by
  refine ⟨hc, fun {H enc w base held fuel cs D ps} hx hw => ?_⟩
  obtain ⟨xs, n, rfl, hx, hl, hn, hf⟩ := DataW.trod_struct ht hx
  cases hx
  obtain ⟨x, hK⟩ := h.opened (cs := cs) (xs := xs) (by omega) (by simpa using hn) (fun i f hi => hf i f (by simpa using hi)) (fun m hm => hw m (by simpa [DataW.weights, ht] using hm))
  exact ⟨x, by simpa using hK⟩
def argCts (P : Program) : Nat → TypeId → Option (List CT)
  | 0, _ => none
  | n + 1, t => match P.underlying t with
    | some (.int k) => if P.cellsOf t = 1 then some [.int k] else none
    | some .bool => if P.cellsOf t = 1 then some [.bool] else none
    | some .string => if P.cellsOf t = 1 then some [.str] else none
    | some (.slice e) => match argCts P n e with
      | some c => if P.cellsOf t = 1 ∧ 1 ≤ P.bytesOf e ∧ 0 < c.length then some [.arr c] else none
      | none => none
    | some (.struct fs) => match each (argCts P n) 0 fs.toList with
      | some c => if P.cellsOf t = c.length then some c else none
      | none => none
    | _ => none
where each (f : TypeId → Option (List CT)) (off : Nat) : List Field → Option (List CT)
  | [] => some []
  | x :: xs => match f x.type with
    | some a => if x.offset = off then match each f (off + a.length) xs with | some b => some (a ++ b) | none => none else none
    | none => none
theorem each_ok {n : Nat} (ih : ∀ t cts, argCts P n t = some cts → Opn P cts t) : ∀ (fs : List Field) (off : Nat) (cts : List CT), argCts.each (argCts P n) off fs = some cts → OpnFrom P cts fs off
  | [], off, cts, h => by cases h; exact from_nil
  | f :: fs, off, cts, h => by
    unfold argCts.each at h
    split at h
    · rename_i a ha
      split at h
      · rename_i ho
        split at h
        · rename_i b hb
          cases h
          exact from_cons ho (ih _ _ ha) (each_ok ih fs _ _ hb)
        · cases h
      · cases h
    · cases h
theorem argCts_ok : ∀ (n : Nat) (t : TypeId) (cts : List CT), argCts P n t = some cts → Opn P cts t
  | 0, t, cts, h => by cases h
  | n + 1, t, cts, h => by
    unfold argCts at h
    split at h
    · rename_i k hu
      split at h
      · rename_i hc; cases h; exact opn_int hu hc
      · cases h
    · rename_i hu
      split at h
      · rename_i hc; cases h; exact opn_bool hu hc
      · cases h
    · rename_i hu
      split at h
      · rename_i hc; cases h; exact opn_str hu hc
      · cases h
    · rename_i e hu
      split at h
      · rename_i c hcc
        split at h
        · rename_i hc; cases h; exact opn_slice hu hc.1 hc.2.1 hc.2.2 (argCts_ok n _ _ hcc)
        · cases h
      · cases h
    · rename_i fs hu
      split at h
      · rename_i c hcc
        split at h
        · rename_i hc; cases h; exact opn_struct hu hc (each_ok (argCts_ok n) _ _ _ hcc)
        · cases h
      · cases h
    · cases h
end
section
variable {H : Type} {enc : TypeId × Value → H} {P : Program} {W : World}
theorem opened_arg {base : Nat} {held : Bool} {t : TypeId} {cts : List CT} {v : Value} {D : DataW H} {ps : List MemPlace} {ts : List TypeId} {ds : List (DataW H)} {j : Nat} (ho : argCts P 20 t = some cts)
    (hsz : (DataW.weightsEach P ts ds).all (· ≤ reachBytes) = true) (ht : ts[j]? = some t) (hd : ds[j]? = some D) (h : DataW.Trod enc P W base (fun _ => true) held t v D ps) : ∃ x, Reads W cts x v.cells.toList := by
  obtain ⟨fuel, hf⟩ := h
  exact (argCts_ok _ _ _ ho).opened hf (fun n hn => by have := List.all_eq_true.1 hsz _ (DataW.weights_mem_each ht hd n hn); simpa using this)
theorem gNone_stable : gNone.stable = allSt := by funext b o; simp [Gh.stable, gNone, Perm.stable]
theorem arg_slice {cts : List CT} {c : Value} {x : List D} (hc : c.cells = #[c]) (h : Reads W [.arr cts] x c.cells.toList) : ∃ xs, Good (.arr cts) (.arr xs) ∧ ∀ s, VRel gNone W s (.arr cts xs) c := by
  obtain ⟨h1, h2, h3⟩ := h
  rw [hc] at h3
  match x, h1 with
  | [d], _ =>
    have := h3 0 (.arr cts) c rfl rfl
    simp only [List.getD_cons_zero] at this
    obtain ⟨h4, h5⟩ := this
    cases h5 with
    | arr _ xs hl hn h => exact ⟨xs, .arr _ xs hl hn h, fun s => .arr s cts xs c (by rw [gNone_stable]; exact h4)⟩
theorem law_of_contract {f : Nat} {vs : List V} {w : World} {cargs : Array Value} {v : Value} (h : Contract P f vs [] (.val v, [])) (hl : cargs.size = vs.length)
    (ha : ∀ (i : Nat) (v : V), vs[i]? = some v → ∃ c, cargs[i]? = some c ∧ VRel gNone w (.tmp i) v c) : Calls P f cargs w fun e w' => e = .returned v ∧ Go.RowKit.Below w.heap.size w w' := by
  refine (h gNone w cargs ⟨hl, ha, fun i cs hi => by simp at hi, fun _ _ => rfl, fun _ => rfl, fun _ => rfl, fun _ => rfl, fun i b hb => (nomatch hb), fun b r l _ ho => (nomatch ho)⟩).mono fun e w' ⟨c, g', he, q1, q2, q3, q4, q5, q6⟩ => ?_
  have := val_inv q1
  subst this
  exact ⟨he, q5.os, q5.tape, q5.output, q5.size, fun k hk => (q5.free k hk rfl).1⟩
end
end Go.Proofs.Ytkcopbnaleiocaa.Ev
namespace Go.Proofs.Ytkcopbnaleiocaa.Ev
open Go Go.ChangeShapes Go.WideShapes Go.RowKit
set_option linter.unusedVariables false
set_option linter.unusedSimpArgs false
def vOf : CT → D → V
  | .int k, d => .val (.int k d.toInt)
  | .bool, d => .val (.bool d.toBool)
  | .str, d => .val (.string d.toStr)
  | .fn, d => .val (.func (.func d.toInt.toNat) #[] #[])
  | .arr cs, d => .arr cs d.toArr
theorem vOf_rel {W : World} {c : CT} {d : D} {v : Value} (h : DRel allSt W c d v) : VRel gNone W .none (vOf c d) v ∧ (vOf c d).cellP := by
  rw [← gNone_stable] at h
  cases h with
  | int k d => exact ⟨.val _ _, trivial⟩
  | bool d => exact ⟨.val _ _, trivial⟩
  | str d => exact ⟨.val _ _, trivial⟩
  | fn d => exact ⟨.val _ _, trivial⟩
  | nil cs d p h => exact ⟨.arr _ _ _ _ (.nil cs _ p h), trivial⟩
  | arr cs d b o cap f hn hm hc hd => exact ⟨.arr _ _ _ _ (.arr cs (.arr d.toArr) b o cap f hn hm hc hd), trivial⟩
theorem zipWith_get {α β γ : Type} (f : α → β → γ) : ∀ (l : List α) (m : List β) (i : Nat) (c : γ), (List.zipWith f l m)[i]? = some c → ∃ a b, l[i]? = some a ∧ m[i]? = some b ∧ c = f a b
  | [], _, i, c, h => by simp at h
  | _ :: _, [], i, c, h => by simp at h
  | a :: l, b :: m, 0, c, h => by simp at h; exact ⟨a, b, rfl, rfl, h.symm⟩
  | a :: l, b :: m, i + 1, c, h => by simpa using zipWith_get f l m i c (by simpa using h)
theorem arg_agg {W : World} {cts : List CT} {x : List D} {cs : Array Value} (h : Reads W cts x cs.toList) (s : Slot) : VRel gNone W s (.agg (List.zipWith vOf cts x)) (.agg cs) := by
  obtain ⟨h1, h2, h3⟩ := h
  have rel : ∀ (i : Nat) (v : V), (List.zipWith vOf cts x)[i]? = some v → ∃ c, cs[i]? = some c ∧ VRel gNone W .none v c ∧ v.cellP := by
    intro i v hv
    obtain ⟨a, b, ha, hb, rfl⟩ := zipWith_get _ _ _ _ _ hv
    have hi : i < cs.toList.length := by rw [h2]; exact (List.getElem?_eq_some_iff.1 ha).1
    have h4 := (h3 i a _ ha (List.getElem?_eq_getElem hi)).1
    rw [List.getD_eq_getElem?_getD, hb] at h4
    have h5 := vOf_rel h4
    refine ⟨cs.toList[i], ?_, h5.1, h5.2⟩
    rw [← Array.getElem?_toList, List.getElem?_eq_getElem hi]
  refine .agg s _ _ ?_ (fun i v hv => ?_) (fun i v c hv hc => ?_)
  · rw [List.length_zipWith, h1, Nat.min_self, ← h2, Array.length_toList]
  · obtain ⟨c, _, _, h6⟩ := rel i v hv; exact h6
  · obtain ⟨c', h4, h5, _⟩ := rel i v hv
    rw [h4] at hc; cases hc; exact h5
theorem arg_obj {W : World} {a b c d : List CT} {x : List D} {cs : Array Value} (h : Reads W [.arr a, .arr b, .arr c, .arr d] x cs.toList) :
    ∃ s y r g, Good (.arr a) (.arr s) ∧ Good (.arr b) (.arr y) ∧ Good (.arr c) (.arr r) ∧ Good (.arr d) (.arr g) ∧ ∀ t, VRel gNone W t (.agg [.arr a s, .arr b y, .arr c r, .arr d g]) (.agg cs) := by
  have hv := fun t => arg_agg h t
  obtain ⟨h1, h2, h3⟩ := h
  have good : ∀ (i : Nat) (e : List CT), ([.arr a, .arr b, .arr c, .arr d] : List CT)[i]? = some (.arr e) → ∃ s, x.getD i default = .arr s ∧ Good (.arr e) (.arr s) := by
    intro i e hi
    have hl : i < cs.toList.length := by rw [h2]; exact (List.getElem?_eq_some_iff.1 hi).1
    have h4 := (h3 i _ _ hi (List.getElem?_eq_getElem hl)).2
    generalize x.getD i default = z at h4 ⊢
    cases h4 with
    | arr _ xs hl hn h => exact ⟨xs, rfl, .arr _ xs hl hn h⟩
  match x, h1 with
  | [x0, x1, x2, x3], _ =>
    obtain ⟨s, e0, g0⟩ := good 0 a rfl
    obtain ⟨y, e1, g1⟩ := good 1 b rfl
    obtain ⟨r, e2, g2⟩ := good 2 c rfl
    obtain ⟨g, e3, g3⟩ := good 3 d rfl
    simp only [List.getD_cons_zero, List.getD_cons_succ] at e0 e1 e2 e3
    subst e0; subst e1; subst e2; subst e3
    exact ⟨s, y, r, g, g0, g1, g2, g3, hv⟩
end Go.Proofs.Ytkcopbnaleiocaa.Ev
namespace Go.Proofs.Ytkcopbnaleiocaa.Ev
open Go
set_option linter.unusedVariables false
set_option linter.unusedSimpArgs false
theorem wrap64 {n : Int} (h1 : -9223372036854775808 ≤ n) (h2 : n ≤ 9223372036854775807) : IntKind.wrap .i64 n = n := by
  have e : IntKind.wrap .i64 n = if (n % 18446744073709551616 ≥ 9223372036854775808) then n % 18446744073709551616 - 18446744073709551616 else n % 18446744073709551616 := by
    simp [IntKind.wrap, IntKind.bits, IntKind.signed]
  rw [e]
  split <;> omega
theorem ix_cons (b : UInt8) (l : List UInt8) (c : UInt8) : Lib.indexByte (b :: l) c = if b = c then 0 else if Lib.indexByte l c = -1 then -1 else Lib.indexByte l c + 1 := by
  simp only [Lib.indexByte, beq_iff_eq]
theorem ix_found : ∀ {l : List UInt8} {c : UInt8}, c ∈ l → ∃ k : Nat, Lib.indexByte l c = (k : Int) ∧ k < l.length ∧ l[k]? = some c ∧ ∀ j, j < k → l[j]? ≠ some c
  | b :: l, c, h => by
    rw [ix_cons]
    by_cases e : b = c
    · subst e
      exact ⟨0, by simp, by simp, rfl, fun j hj => by omega⟩
    · have h' : c ∈ l := by
        rcases List.mem_cons.1 h with h | h
        · exact absurd h.symm e
        · exact h
      obtain ⟨k, h1, h2, h3, h4⟩ := ix_found h'
      rw [if_neg e, h1, if_neg (by omega)]
      refine ⟨k + 1, by simp, by simp; omega, by simpa using h3, fun j hj => ?_⟩
      cases j with
      | zero => simpa using e
      | succ j => simpa using h4 j (by omega)
theorem cut_get {α : Type} (xs : List α) (a : Nat) (h : Int) (hh : h ≤ xs.length) (j : Nat) (hj : (a : Int) + j < h) : (cut xs (a : Int) h)[j]? = xs[a + j]? := by
  unfold cut
  rw [List.getElem?_take, List.getElem?_drop]
  rw [if_pos (by simp only [Int.toNat_natCast]; omega)]
  simp
theorem getD_left {a b : List (List D)} {i : Nat} (h : i < a.length) : (a ++ b).getD i [] = a.getD i [] := by
  rw [List.getD_eq_getElem?_getD, List.getElem?_append_left h, List.getD_eq_getElem?_getD]
theorem getD_right {a b : List (List D)} {i : Nat} (h : a.length ≤ i) : (a ++ b).getD i [] = b.getD (i - a.length) [] := by
  rw [List.getD_eq_getElem?_getD, List.getElem?_append_right h, List.getD_eq_getElem?_getD]
theorem cellI_left {a b : List (List D)} {i j : Nat} (h : i < a.length) : cellI (a ++ b) i j = cellI a i j := by rw [cellI, getD_left h]; rfl
theorem cellI_right {a b : List (List D)} {i j : Nat} (h : a.length ≤ i) : cellI (a ++ b) i j = cellI b (i - a.length) j := by rw [cellI, getD_right h]; rfl
theorem notT {b : Bool} (h : (!b) = true) : b = false := by cases b <;> simp_all
theorem notF {b : Bool} (h : (!b) = false) : b = true := by cases b <;> simp_all
theorem decT {p : Prop} [Decidable p] (h : p) : decide p = true := decide_eq_true h
theorem decF {p : Prop} [Decidable p] (h : ¬ p) : decide p = false := decide_eq_false h
theorem andT {a b : Bool} (h1 : a = true) (h2 : b = true) : (a && b) = true := by rw [h1, h2]; rfl
theorem okB {l h n : Int} (h0 : 0 ≤ l) (h1 : l ≤ h) (h2 : h ≤ n) : okBounds l h n = true := by simp [okBounds, h0, h1, h2]
theorem bytes_eq (a b : ByteArray) : (a.toList == b.toList) = decide (a = b) := by
  rw [ByteArray.toList_eq, ByteArray.toList_eq]
  by_cases h : a = b
  · subst h; simp
  · rw [decide_eq_false h, beq_eq_false_iff_ne]
    intro e
    exact h (ByteArray.ext (Array.ext' e))
end Go.Proofs.Ytkcopbnaleiocaa.Ev
namespace Go.Proofs.Ytkcopbnaleiocaa.Ev
open Go
set_option linter.unusedVariables false
set_option linter.unusedSimpArgs false
inductive CK where
  | no
  | sl (cs : List CT)
  | ag (l : List (Option (List CT)))
def normV : CK → V → V
  | .sl cs, v => castV (some cs) v
  | .ag l, .agg vs => .agg (castArgs l vs)
  | _, v => v
def normArgs : List CK → List V → List V
  | k :: ks, v :: vs => normV k v :: normArgs ks vs
  | _, vs => vs
theorem castV_cellP (k : Option (List CT)) {v : V} (h : v.cellP) : (castV k v).cellP := by
  unfold castV
  split <;> first | trivial | exact h
theorem normV_rel (k : CK) {v : V} {g : Gh} {w : World} {s : Slot} {c : Value} (h : VRel g w s v c) : VRel g w s (normV k v) c := by
  unfold normV
  split
  · exact castV_rel _ h
  · rename_i l vs
    cases h with
    | agg _ _ cs hl hf hx =>
      refine .agg _ _ cs (by rw [castArgs_length]; exact hl) (fun i v' hv' => ?_) (fun i v' c hv' hc => ?_)
      · have : ∀ (ks : List (Option (List CT))) (vs : List V) (i : Nat) (v' : V), (∀ (i : Nat) (v : V), vs[i]? = some v → v.cellP) → (castArgs ks vs)[i]? = some v' → v'.cellP := by
          intro ks
          induction ks with
          | nil => intro vs i v' hf h; exact hf i v' (by simpa [castArgs] using h)
          | cons k ks ih =>
            intro vs i v' hf h
            cases vs with
            | nil => simp [castArgs] at h
            | cons v vs =>
              cases i with
              | zero => simp [castArgs] at h; subst h; exact castV_cellP k (hf 0 v rfl)
              | succ i => exact ih vs i v' (fun i v h => hf (i + 1) v (by simpa using h)) (by simpa [castArgs] using h)
        exact this l vs i v' hf hv'
      · obtain ⟨v, hv, hx'⟩ := castArgs_get l vs i v' hv'
        exact hx' (hx i v c hv hc)
  · exact h
theorem normArgs_get : ∀ (ks : List CK) (vs : List V) (i : Nat) (v' : V), (normArgs ks vs)[i]? = some v' → ∃ v, vs[i]? = some v ∧ ∀ {g : Gh} {w : World} {s : Slot} {c : Value}, VRel g w s v c → VRel g w s v' c
  | [], vs, i, v', h => ⟨v', by simpa [normArgs] using h, fun h => h⟩
  | k :: ks, [], i, v', h => by simp [normArgs] at h
  | k :: ks, v :: vs, 0, v', h => by
    simp only [normArgs, List.getElem?_cons_zero, Option.some.injEq] at h
    subst h
    exact ⟨v, rfl, normV_rel k⟩
  | k :: ks, v :: vs, i + 1, v', h => by
    simp only [normArgs, List.getElem?_cons_succ] at h
    obtain ⟨u, hu, hx⟩ := normArgs_get ks vs i v' h
    exact ⟨u, by simpa using hu, hx⟩
theorem normArgs_length : ∀ (ks : List CK) (vs : List V), (normArgs ks vs).length = vs.length
  | [], _ => by simp [normArgs]
  | _ :: _, [] => by simp [normArgs]
  | _ :: ks, _ :: vs => by simp [normArgs, normArgs_length ks vs]
theorem Contract.norm {P : Program} {f : Nat} {ks : List CK} {vs : List V} {outs : List (List V)} {r : R} (h : Contract P f (normArgs ks vs) outs r) : Contract P f vs outs r := by
  intro g w cargs hh
  refine h g w cargs ⟨by rw [normArgs_length]; exact hh.size, fun i v' hv' => ?_, hh.boxes, hh.fresh, hh.loc, hh.mp, hh.mn, hh.out, hh.nones⟩
  obtain ⟨v, hv, hx⟩ := normArgs_get ks vs i v' hv'
  obtain ⟨c, hc, hr⟩ := hh.args i v hv
  exact ⟨c, hc, hx hr⟩
def exN (ks : List CK) (g : List V → Option V) : ExtF := { pre := fun _ _ => true, ans := fun vs outs => match outs with | [] => (g (normArgs ks vs)).map fun v => (v, []) | _ => none }
def exP (ks : List CK) (p : List V → Bool) (g : List V → Option V) : ExtF := { pre := fun vs outs => match outs with | [] => p (normArgs ks vs) | _ => true, ans := fun vs outs => match outs with | [] => (g (normArgs ks vs)).map fun v => (v, []) | _ => none }
theorem ExtAll.norm {P : Program} {l : List (Nat × ExtF)} {f : Nat} {ks : List CK} {g : List V → Option V} (h : ∀ (vs : List V) (v : V), g vs = some v → Contract P f vs [] (v, [])) (hl : ExtAll P l) : ExtAll P ((f, exN ks g) :: l) :=
  .cons (fun vs outs r _ h2 => by
    simp only [exN] at h2
    split at h2
    · obtain ⟨v, hv, rfl⟩ := Option.map_eq_some_iff.1 h2
      exact Contract.norm (h _ _ hv)
    · cases h2) hl
theorem ExtAll.normP {P : Program} {l : List (Nat × ExtF)} {f : Nat} {ks : List CK} {p : List V → Bool} {g : List V → Option V} (h : ∀ (vs : List V) (v : V), p vs = true → g vs = some v → Contract P f vs [] (v, [])) (hl : ExtAll P l) : ExtAll P ((f, exP ks p g) :: l) :=
  .cons (fun vs outs r h1 h2 => by
    simp only [exP] at h2 h1
    split at h2
    · obtain ⟨v, hv, rfl⟩ := Option.map_eq_some_iff.1 h2
      exact Contract.norm (h _ _ h1 hv)
    · cases h2) hl
abbrev u8s : List CT := [.int .u8]
abbrev i64s : List CT := [.int .i64]
abbrev Is (v : V) : R → Prop := fun r => Relax r.1 v ∧ r.2 = []
theorem is_refl {v v' : V} (h : v = v') : Is v' (v, []) := ⟨by rw [h]; exact .one (.one (.refl _)), rfl⟩
theorem is_tup2 {a b a' b' : V} (h1 : Rx2 a a') (h2 : Rx2 b b') : Is (.tup [a', b']) (.tup [a, b], []) := by
  refine ⟨.tup rfl fun i v v' hv hv' => ?_, rfl⟩
  match i with
  | 0 => simp at hv hv'; subst hv; subst hv'; exact h1
  | 1 => simp at hv hv'; subst hv; subst hv'; exact h2
  | i + 2 => simp at hv
theorem is_tup3 {a b c a' b' c' : V} (h1 : Rx2 a a') (h2 : Rx2 b b') (h3 : Rx2 c c') : Is (.tup [a', b', c']) (.tup [a, b, c], []) := by
  refine ⟨.tup rfl fun i v v' hv hv' => ?_, rfl⟩
  match i with
  | 0 => simp at hv hv'; subst hv; subst hv'; exact h1
  | 1 => simp at hv hv'; subst hv; subst hv'; exact h2
  | 2 => simp at hv hv'; subst hv; subst hv'; exact h3
  | i + 3 => simp at hv
theorem rx_of {a b : V} (h : a = b) : Rx2 a b := by rw [h]; exact .one (.refl _)
theorem rx_nil {cs : List CT} {xs : List (List D)} (h : xs = []) : Rx2 (.val nilSlice) (.arr cs xs) := by subst h; exact .one (.nilArr _)
theorem rx_nilO {cs : List CT} {xs : List (List D)} (h : xs = []) : Rx2 (.val nilSlice) (.own cs xs) := by subst h; exact .one (.nilOwn _)
theorem rx_nilU {cs : List CT} {xs : List (List D)} (h : xs = []) : Rx2 (.val nilSlice) (.uni cs xs) := by subst h; exact .nilUni _
theorem is_one {a a' : V} (h : Rx2 a a') : Is a' (a, []) := ⟨.one h, rfl⟩
end Go.Proofs.Ytkcopbnaleiocaa.Ev
