/- What the evaluator's operations write stands for what the model's operations leave: addresses, parts, lengths. -/
import Derived.Test.YtkcopbnaleiocaaOp3
namespace Go.Proofs.Ytkcopbnaleiocaa.Ev
open Go
set_option linter.unusedVariables false
set_option linter.unusedSimpArgs false
section
variable {P : Program} {I : Info} {g0 g : Gh} {w0 w : World} {σ : St} {a : Act} {N : Nat} {o : Oper} {ops : List Oper} {next : Act → World → Prop} {Q : Exit → Act → World → Prop} {ws : List W} {b : Bool}

theorem info_run {t : TypeId} {i : TypeInfo} (h : P.info? t = some i) (w : World) : (typeInfo t).run P w = .ok i w := by
  simp [typeInfo, program, h, Sem.run, pure, bind, Sem.bind]
theorem size_run {t : TypeId} {i : TypeInfo} (h : P.info? t = some i) (w : World) : (sizeOf t).run P w = .ok i.size w := by
  show ((typeInfo t).bind _).run P w = _
  rw [run_then (info_run h w)]
  rfl
/-- A row of cells that is read. -/
theorem row_inv {s : Slot} {cs : List CT} {xs : List (List D)} {c : Value} (h : DRel g.stable w (.arr cs) (.arr xs) c) : (xs = [] ∧ ∃ p, c = .slice p 0 0) ∨ ∃ b o cap, c = .slice (some (pl b o)) xs.length cap ∧ xs.length ≤ cap ∧ cap ≤ maxLen := by
  cases h with
  | nil _ _ p h => exact .inl ⟨h, p, rfl⟩
  | arr _ _ b o cap f hn hm hc hd => exact .inr ⟨b, o, cap, rfl, hn, hm⟩
theorem arr_d {s : Slot} {cs : List CT} {xs : List (List D)} {c : Value} (h : VRel g w s (.arr cs xs) c) : DRel g.stable w (.arr cs) (.arr xs) c := by cases h; assumption
theorem own_d {s : Slot} {cs : List CT} {xs : List (List D)} {c : Value} (h : VRel g w s (.own cs xs) c) : DRel g.stable w (.arr cs) (.arr xs) c := by cases h; assumption

theorem op_fieldAddr {s : TypeId} {x : Operand} {f : Nat} (ho : o.op = .fieldAddr s x f) (hok : InfoOk P I) (h : Rep g0 w0 g w σ a N) (hd : ∀ t, o.dst = some t → t < N) (hr : (opM I ops o).run σ = some (true, ws)) (hn : ∀ g' a' w', Rep g0 w0 g' w' (σ.puts ws) a' N → next a' w') : o.wp P a w next Q := by
  unfold opM at hr
  rw [ho] at hr
  obtain ⟨u, hr, hu, -, -⟩ := opd_sound h hr
  cases hs : I.und s with
  | none => rw [hs] at hr; cases hr
  | some d =>
    rw [hs] at hr
    cases d with
    | struct fs =>
      simp only at hr
      cases hf : fs[f]? with
      | none => rw [hf] at hr; cases hr
      | some fd =>
        rw [hf] at hr
        cases hz : I.size fd.type with
        | none => simp only [hz] at hr; cases hr
        | some n =>
          simp only [hz] at hr
          cases n with
          | zero => cases hr
          | succ n =>
            obtain ⟨i, hi, hin⟩ := hok.size hz
            have run : ∀ b q, a.eval x = .pointer (some (pl b q)) → (execOp a.eval o).run P w = .ok (.value (.pointer (some (pl b (q + fd.offset))))) w := by
              intro b q e
              have h1 : (fieldPlace (pl b q) fd).run P w = .ok (pl b (q + fd.offset)) w := by
                show ((sizeOf fd.type).bind _).run P w = _
                rw [run_then (size_run hi w), hin, if_neg (by omega), pl_add]
                rfl
              have h2 : (Instr.fieldAt s (a.eval x) f).run P w = .ok (.pointer (some (pl b (q + fd.offset)))) w := by
                show ((underlying s).bind _).run P w = _
                rw [run_then (und_run (hok.und hs) w)]
                simp only [hf, e]
                show ((fieldPlace (pl b q) fd).bind _).run P w = _
                rw [run_then h1]
                rfl
              simp only [execOp, ho]
              show ((Instr.fieldAt s (a.eval x) f).bind _).run P w = _
              rw [run_then h2]
              rfl
            cases u with
            | ptr k off =>
              obtain ⟨b, hb, e⟩ := ptr_inv hu
              exact op_plain (v := .ptr k (off + fd.offset)) h hd (run b off e) (fun _ => .ptr _ _ _ _ hb (ptr_key hu)) hr hn
            | eptr cs xs i j =>
              obtain ⟨b, q, cap, hi, hd', e⟩ := eptr_inv hu
              refine op_plain (v := .eptr cs xs i (j + fd.offset)) h hd (run b _ e) (fun _ => ?_) hr hn
              have := VRel.eptr (g := g) (w := w) (.tmp ‹_›) cs xs i (j + fd.offset) b q cap hi hd'
              simpa [Nat.add_assoc] using this
            | mptr t cs i j =>
              obtain ⟨b, n, hb, hnn, hi, e⟩ := mptr_inv hu
              refine op_plain (v := .mptr t cs i (j + fd.offset)) h hd (run b _ e) (fun s => ?_) hr hn
              have := VRel.mptr (g := g) (w := w) (.tmp s) t cs i (j + fd.offset) b n hb hnn hi
              simpa [Nat.add_assoc] using this
            | _ => cases hr
    | _ => cases hr

theorem indexAt_run {t e : TypeId} {x ix : Operand} (ho : o.op = .indexAddr t x ix) (hok : InfoOk P I) (hu : I.und t = some (.slice e)) {sz : Nat} (hz : I.size e = some sz) {b q n cap : Nat} {k : IntKind} {i : Int} (hx : a.eval x = .slice (some (pl b q)) n cap) (hi : a.eval ix = .int k i) (h0 : 0 ≤ i) (h1 : i < n) :
    (execOp a.eval o).run P w = .ok (.value (.pointer (some (pl b (q + i.toNat * sz))))) w := by
  obtain ⟨inf, hinf, hin⟩ := hok.size hz
  have h2 : (Instr.indexAt t (a.eval x) (a.eval ix)).run P w = .ok (.pointer (some (pl b (q + i.toNat * sz)))) w := by
    rw [hx, hi]
    simp [Instr.indexAt, asIntOf, und_run (hok.und hu), h0, h1, size_run hinf, hin, pl_add]
  simp only [execOp, ho]
  show ((Instr.indexAt t (a.eval x) (a.eval ix)).bind _).run P w = _
  rw [run_then h2]
  rfl
theorem op_indexUni {t e : TypeId} {x ix : Operand} (ho : o.op = .indexAddr t x ix) (hok : InfoOk P I) (h : Rep g0 w0 g w σ a N) (hd : ∀ t, o.dst = some t → t < N) (hs : I.und t = some (.slice e)) {c : List CT} {xs : List (List D)} (hux : ∀ s, x = .tmp s → σ.tmp s = some (.uni c xs)) {k : IntKind} {i : Int} (hi : a.eval ix = .int k i)
    (hr : (match x with | .tmp s => if I.size e = some c.length then (M.ret (decide (0 ≤ i) && decide (i < xs.length), .tmp s (some (.own c xs)) :: dstW o.dst (.eptr c xs i.toNat 0)) : Step) else .fail | _ => .fail).run σ = some (true, ws)) (hn : ∀ g' a' w', Rep g0 w0 g' w' (σ.puts ws) a' N → next a' w') : o.wp P a w next Q := by
  split at hr
  case h_2 => cases hr
  rename_i s
  split at hr
  case isFalse => cases hr
  rename_i hz
  simp only [M.run, Option.some.injEq, Prod.mk.injEq, Bool.and_eq_true, decide_eq_true_eq] at hr
  obtain ⟨hb, rfl⟩ := hr
  obtain ⟨g1, h1⟩ := h.raise (hux s rfl)
  obtain ⟨v, hc, hv1⟩ := h1.env s (.own c xs) (by simp)
  have hc' : a.eval (.tmp s) = v := by simp only [Act.eval, Array.getD_eq_getD_getElem?, hc, Option.getD_some]
  have hx := own_d hv1
  rcases row_inv (s := .none) hx with ⟨rfl, _⟩ | ⟨b, q, cap, e', _, _⟩
  · simp at hb; omega
  · rw [e'] at hx
    refine up_value (indexAt_run ho hok hs hz (hc'.trans e') hi hb.1 hb.2) (hn g1 _ _ (h1.dst hd fun s => ?_))
    have := VRel.eptr (g := g1) (w := w) (.tmp s) c xs i.toNat 0 b q cap (by omega) hx
    simpa using this
theorem op_indexAddr {t : TypeId} {x ix : Operand} (ho : o.op = .indexAddr t x ix) (hok : InfoOk P I) (h : Rep g0 w0 g w σ a N) (hd : ∀ t, o.dst = some t → t < N) (hr : (opM I ops o).run σ = some (true, ws)) (hn : ∀ g' a' w', Rep g0 w0 g' w' (σ.puts ws) a' N → next a' w') : o.wp P a w next Q := by
  unfold opM at hr
  rw [ho] at hr
  obtain ⟨u, hr, hu, hux, -⟩ := opd_sound h hr
  obtain ⟨v, hr, hv, -, -⟩ := opd_sound h hr
  have key : ∀ (e : TypeId) (c : List CT) (xs : List (List D)) (k : IntKind) (i : Int), I.und t = some (.slice e) → DRel g.stable w (.arr c) (.arr xs) (a.eval x) → a.eval ix = .int k i →
      (if I.size e = some c.length then (M.ret (decide (0 ≤ i) && decide (i < xs.length), dstW o.dst (.eptr c xs i.toNat 0)) : Step) else .fail).run σ = some (true, ws) → o.wp P a w next Q := by
    intro e c xs k i hs hx hi hr
    split at hr
    · rename_i hz
      obtain ⟨hb, hr⟩ := ret_ok hr
      simp only [Bool.and_eq_true, decide_eq_true_eq] at hb
      rcases row_inv (s := .none) hx with ⟨rfl, _⟩ | ⟨b, q, cap, e', _, _⟩
      · simp at hb; omega
      · rw [e'] at hx
        refine op_plain (v := .eptr c xs i.toNat 0) h hd (indexAt_run ho hok hs hz e' hi hb.1 hb.2) (fun s => ?_) hr hn
        have := VRel.eptr (g := g) (w := w) (.tmp s) c xs i.toNat 0 b q cap (by omega) hx
        simpa using this
    · cases hr
  cases hs : I.und t with
  | none => rw [hs] at hr; cases hr
  | some d =>
    rw [hs] at hr
    cases d <;> try (cases hr; done)
    case array len e =>
      cases u <;> try (cases hr; done)
      rename_i k off _
      cases v <;> try (cases hr; done)
      have e2 := val_inv hv
      rename_i val
      cases val <;> try (cases hr; done)
      rename_i kk i
      simp only at hr
      cases hz : I.size e with
      | none => rw [hz] at hr; cases hr
      | some sz =>
      rw [hz] at hr
      simp only at hr
      obtain ⟨hb, hr⟩ := ret_ok hr
      simp only [Bool.and_eq_true, decide_eq_true_eq] at hb
      obtain ⟨bb, hat, e'⟩ := ptr_inv hu
      obtain ⟨inf, hinf, hin⟩ := hok.size hz
      have h2 : (Instr.indexAt t (a.eval x) (a.eval ix)).run P w = .ok (.pointer (some (pl bb (off + i.toNat * sz)))) w := by
        rw [e', e2]
        simp [Instr.indexAt, asIntOf, und_run (hok.und hs), hb.1, hb.2, size_run hinf, hin, pl_add, Instr.sureAddr]
      refine op_plain (v := .ptr k (off + i.toNat * sz)) h hd ?_ (fun s => .ptr _ _ _ _ hat (ptr_key hu)) hr hn
      simp only [execOp, ho]
      show ((Instr.indexAt t (a.eval x) (a.eval ix)).bind _).run P w = _
      rw [run_then h2]
      rfl
    cases u <;> try (cases hr; done)
    all_goals
      cases v <;> try (cases hr; done)
      have e2 := val_inv hv
      rename_i val
      cases val <;> try (cases hr; done)
      first
      | exact key _ _ _ _ _ hs (by first | exact arr_d hu | exact own_d hu) e2 hr
      | exact op_indexUni ho hok h hd hs hux e2 hr hn
      | (simp only at hr
         split at hr
         · rename_i hz
           obtain ⟨hb, hr⟩ := ret_ok hr
           simp only [Bool.and_eq_true, decide_eq_true_eq] at hb
           obtain ⟨b, f, e', hm, hl, hcells⟩ := sarr_inv hu
           refine op_plain h hd (indexAt_run ho hok hs hz e' e2 hb.1 hb.2) (fun s => ?_) hr hn
           rw [Nat.zero_add]
           rw [e'] at hu
           exact VRel.sptr (g := g) (w := w) (.tmp s) _ _ _ b (by omega) (VRel.slot (by trivial) hu)
         · cases hr)
      | (simp only at hr
         split at hr
         · rename_i hz
           obtain ⟨hb, hr⟩ := ret_ok hr
           simp only [Bool.and_eq_true, decide_eq_true_eq] at hb
           obtain ⟨b, cap, n, q1, q2, q3, q4, q5, e'⟩ := ms_inv hu
           refine op_plain h hd (indexAt_run ho hok hs hz e' e2 hb.1 hb.2) (fun s => ?_) hr hn
           rw [← Nat.add_mul]
           exact VRel.mptr (g := g) (w := w) (.tmp s) _ _ _ 0 b n q1 q2 (by omega)
         · cases hr)

/-- An operation whose value the evaluator takes from a Sem. -/
theorem sem_run {s : Sem Value} {c : Value} {w' : World} (he : execOp a.eval o = s.bind fun v => .pure (.value v)) (hs : s.run P w = .ok c w') : (execOp a.eval o).run P w = .ok (.value c) w' := by
  rw [he, run_then hs]
  rfl
theorem callBuiltin {bt : Builtin} {args : Array Operand} {ats : Array TypeId} (ho : o.op = .call ⟨.builtin bt, args, ats⟩) : execOp a.eval o = builtin bt ats o.type (args.map fun | .const _ => true | _ => false) (args.map a.eval) := by
  simp only [execOp, ho]
  rfl
theorem op_len {args : Array Operand} {ats : Array TypeId} (ho : o.op = .call ⟨.builtin .len, args, ats⟩) (hok : InfoOk P I) (h : Rep g0 w0 g w σ a N) (hd : ∀ t, o.dst = some t → t < N) (hr : (opM I ops o).run σ = some (true, ws)) (hn : ∀ g' a' w', Rep g0 w0 g' w' (σ.puts ws) a' N → next a' w') : o.wp P a w next Q := by
  unfold opM at hr
  rw [ho] at hr
  simp only at hr
  cases hal : args.toList with
  | nil => rw [hal] at hr; cases hr
  | cons x r =>
    rw [hal] at hr
    cases r with
    | cons => cases hr
    | nil =>
      obtain rfl : args = #[x] := by cases args; simp_all
      simp only at hr
      cases hat : ats[0]? with
      | none => rw [hat] at hr; cases hr
      | some t =>
      rw [hat] at hr
      simp only at hr
      obtain ⟨u, hr, hu, -, -⟩ := opd_sound h hr
      have fin : ∀ (m : Nat), ((Builtin.len_ ats o.type #[a.eval x]).run P w = .ok (.int .i64 m) w) → (M.ret (true, dstW o.dst (.val (.int .i64 m))) : Step).run σ = some (true, ws) → o.wp P a w next Q := by
        intro m hm hr
        exact op_plain h hd (sem_run (s := Builtin.len_ ats o.type #[a.eval x]) (by rw [callBuiltin ho, show (#[x] : Array Operand).map a.eval = #[a.eval x] by simp]; rfl) hm) (fun _ => .val _ _) hr hn
      have slice : ∀ (cs : List CT) (xs : List (List D)) (e : TypeId), I.und t = some (.slice e) → DRel g.stable w (.arr cs) (.arr xs) (a.eval x) → (Builtin.len_ ats o.type #[a.eval x]).run P w = .ok (.int .i64 xs.length) w := by
        intro cs xs e ht hx
        rcases row_inv (s := .none) hx with ⟨rfl, p, e'⟩ | ⟨b, q, cap, e', _, _⟩ <;> rw [e'] <;> simp [Builtin.len_, hat, und_run (hok.und ht), goInt, nilSlice]
      cases ht : I.und t with
      | none => rw [ht] at hr; cases hr
      | some d =>
        rw [ht] at hr
        cases d <;> try (cases hr; done)
        · cases u <;> try (cases hr; done)
          have e := val_inv hu
          rename_i val
          cases val <;> try (cases hr; done)
          exact fin _ (by simp [e, Builtin.len_, hat, und_run (hok.und ht), goInt]) hr
        · simp only at hr
          split at hr
          · exact fin _ (slice _ _ _ ht (arr_d hu)) hr
          · exact fin _ (slice _ _ _ ht (own_d hu)) hr
          · cases hu with
            | uni _ _ _ _ hu =>
              rcases hu with ⟨rfl, e'⟩ | ⟨b, cap, cur, e1, e', _⟩ <;> exact fin _ (by rw [e']; simp [Builtin.len_, hat, und_run (hok.und ht), goInt, nilSlice]) hr
          · generalize hz : a.eval x = z at hu
            cases hu with
            | slen => exact fin _ (by rw [hz]; simp [Builtin.len_, hat, und_run (hok.und ht), goInt]) hr
          · obtain ⟨b, cap, n, q1, q2, q3, q4, q5, e'⟩ := ms_inv hu
            exact fin _ (by rw [e']; simp [Builtin.len_, hat, und_run (hok.und ht), goInt]) hr
          · obtain ⟨b, f, e', -⟩ := sarr_inv hu
            exact fin _ (by rw [e']; simp [Builtin.len_, hat, und_run (hok.und ht), goInt]) hr
          · have e := val_inv hu
            exact fin _ (by simp [e, Builtin.len_, hat, und_run (hok.und ht), goInt]) hr
          · cases hr
end
end Go.Proofs.Ytkcopbnaleiocaa.Ev
