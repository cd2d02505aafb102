/- What the evaluator's operations write stands for what the model's operations leave: addresses, parts, lengths. What the evaluator's operations write stands for what the model's operations leave: pieces, bytes, the lesser and the greater. What the evaluator's operations write stands for what the model's operations leave: boxes. What the evaluator's operations write stands for what the model's operations leave: loads, stores, new boxes. -/
import Derived.Test.YtacfehneeanlgaaDoorOp3
import Derived.Deep.MidRow
namespace Go.Proofs.YtacfehneeanlgaaDoor.Ev
open Go
set_option linter.unusedVariables false
set_option linter.unusedSimpArgs false
section
variable {P : Program} {I : Info} {g0 g : Gh} {w0 w : World} {σ : St} {a : Act} {N : Nat} {o : Oper} {ops : List Oper} {next : Act → World → Prop} {Q : Exit → Act → World → Prop} {ws : List W} {b : Bool}

theorem info_run {t : TypeId} {i : TypeInfo} (h : P.info? t = some i) (w : World) : (typeInfo t).run P w = .ok i w := by
  simp [typeInfo, program, h, Sem.run, pure, bind, Sem.bind]
theorem size_run {t : TypeId} {i : TypeInfo} (h : P.info? t = some i) (w : World) : (sizeOf t).run P w = .ok i.size w := by
  show ((typeInfo t).bind _).run P w = _
  rw [run_then (info_run h w)]
  rfl
/-- A row of cells that is read. -/
theorem row_inv {s : Slot} {cs : List CT} {xs : List (List D)} {c : Value} (h : DRel g.stable w (.arr cs) (.arr xs) c) : (xs = [] ∧ ∃ p, c = .slice p 0 0) ∨ ∃ b o cap, c = .slice (some (pl b o)) xs.length cap ∧ xs.length ≤ cap ∧ cap ≤ maxLen := by
  cases h with
  | nil _ _ p h => exact .inl ⟨h, p, rfl⟩
  | arr _ _ b o cap f hn hm hc hd => exact .inr ⟨b, o, cap, rfl, hn, hm⟩
theorem arr_d {s : Slot} {cs : List CT} {xs : List (List D)} {c : Value} (h : VRel g w s (.arr cs xs) c) : DRel g.stable w (.arr cs) (.arr xs) c := by cases h; assumption
theorem own_d {s : Slot} {cs : List CT} {xs : List (List D)} {c : Value} (h : VRel g w s (.own cs xs) c) : DRel g.stable w (.arr cs) (.arr xs) c := by cases h; assumption

theorem op_fieldAddr {s : TypeId} {x : Operand} {f : Nat} (ho : o.op = .fieldAddr s x f) (hok : InfoOk P I) (h : Rep g0 w0 g w σ a N) (hd : ∀ t, o.dst = some t → t < N) (hr : (opM I ops o).run σ = some (true, ws)) (hn : ∀ g' a' w', Rep g0 w0 g' w' (σ.puts ws) a' N → next a' w') : o.wp P a w next Q := by
  unfold opM at hr
  rw [ho] at hr
  obtain ⟨u, hr, hu, -, -⟩ := opd_sound h hr
  cases hs : I.und s with
  | none => rw [hs] at hr; cases hr
  | some d =>
    rw [hs] at hr
    cases d with
    | struct fs =>
      simp only at hr
      cases hf : fs[f]? with
      | none => rw [hf] at hr; cases hr
      | some fd =>
        rw [hf] at hr
        cases hz : I.size fd.type with
        | none => simp only [hz] at hr; cases hr
        | some n =>
          simp only [hz] at hr
          cases n with
          | zero => cases hr
          | succ n =>
            obtain ⟨i, hi, hin⟩ := hok.size hz
            have run : ∀ b q, a.eval x = .pointer (some (pl b q)) → (execOp a.eval o).run P w = .ok (.value (.pointer (some (pl b (q + fd.offset))))) w := by
              intro b q e
              have h1 : (fieldPlace (pl b q) fd).run P w = .ok (pl b (q + fd.offset)) w := by
                show ((sizeOf fd.type).bind _).run P w = _
                rw [run_then (size_run hi w), hin, if_neg (by omega), pl_add]
                rfl
              have h2 : (Instr.fieldAt s (a.eval x) f).run P w = .ok (.pointer (some (pl b (q + fd.offset)))) w := by
                show ((underlying s).bind _).run P w = _
                rw [run_then (und_run (hok.und hs) w)]
                simp only [hf, e]
                show ((fieldPlace (pl b q) fd).bind _).run P w = _
                rw [run_then h1]
                rfl
              simp only [execOp, ho]
              show ((Instr.fieldAt s (a.eval x) f).bind _).run P w = _
              rw [run_then h2]
              rfl
            cases u with
            | ptr k off =>
              obtain ⟨b, hb, e⟩ := ptr_inv hu
              exact op_plain (v := .ptr k (off + fd.offset)) h hd (run b off e) (fun _ => .ptr _ _ _ _ hb (ptr_key hu)) hr hn
            | eptr cs xs i j =>
              obtain ⟨b, q, cap, hi, hd', e⟩ := eptr_inv hu
              refine op_plain (v := .eptr cs xs i (j + fd.offset)) h hd (run b _ e) (fun _ => ?_) hr hn
              have := VRel.eptr (g := g) (w := w) (.tmp ‹_›) cs xs i (j + fd.offset) b q cap hi hd'
              simpa [Nat.add_assoc] using this
            | mptr t cs i j =>
              obtain ⟨b, n, hb, hnn, hi, e⟩ := mptr_inv hu
              refine op_plain (v := .mptr t cs i (j + fd.offset)) h hd (run b _ e) (fun s => ?_) hr hn
              have := VRel.mptr (g := g) (w := w) (.tmp s) t cs i (j + fd.offset) b n hb hnn hi
              simpa [Nat.add_assoc] using this
            | _ => cases hr
    | _ => cases hr

theorem indexAt_run {t e : TypeId} {x ix : Operand} (ho : o.op = .indexAddr t x ix) (hok : InfoOk P I) (hu : I.und t = some (.slice e)) {sz : Nat} (hz : I.size e = some sz) {b q n cap : Nat} {k : IntKind} {i : Int} (hx : a.eval x = .slice (some (pl b q)) n cap) (hi : a.eval ix = .int k i) (h0 : 0 ≤ i) (h1 : i < n) :
    (execOp a.eval o).run P w = .ok (.value (.pointer (some (pl b (q + i.toNat * sz))))) w := by
  obtain ⟨inf, hinf, hin⟩ := hok.size hz
  have h2 : (Instr.indexAt t (a.eval x) (a.eval ix)).run P w = .ok (.pointer (some (pl b (q + i.toNat * sz)))) w := by
    rw [hx, hi]
    simp [Instr.indexAt, asIntOf, und_run (hok.und hu), h0, h1, size_run hinf, hin, pl_add]
  simp only [execOp, ho]
  show ((Instr.indexAt t (a.eval x) (a.eval ix)).bind _).run P w = _
  rw [run_then h2]
  rfl
theorem op_indexUni {t e : TypeId} {x ix : Operand} (ho : o.op = .indexAddr t x ix) (hok : InfoOk P I) (h : Rep g0 w0 g w σ a N) (hd : ∀ t, o.dst = some t → t < N) (hs : I.und t = some (.slice e)) {c : List CT} {xs : List (List D)} (hux : ∀ s, x = .tmp s → σ.tmp s = some (.uni c xs)) {k : IntKind} {i : Int} (hi : a.eval ix = .int k i)
    (hr : (match x with | .tmp s => if I.size e = some c.length then (M.ret (decide (0 ≤ i) && decide (i < xs.length), .tmp s (some (.own c xs)) :: dstW o.dst (.eptr c xs i.toNat 0)) : Step) else .fail | _ => .fail).run σ = some (true, ws)) (hn : ∀ g' a' w', Rep g0 w0 g' w' (σ.puts ws) a' N → next a' w') : o.wp P a w next Q := by
  split at hr
  case h_2 => cases hr
  rename_i s
  split at hr
  case isFalse => cases hr
  rename_i hz
  simp only [M.run, Option.some.injEq, Prod.mk.injEq, Bool.and_eq_true, decide_eq_true_eq] at hr
  obtain ⟨hb, rfl⟩ := hr
  obtain ⟨g1, h1⟩ := h.raise (hux s rfl)
  obtain ⟨v, hc, hv1⟩ := h1.env s (.own c xs) (by simp)
  have hc' : a.eval (.tmp s) = v := by simp only [Act.eval, Array.getD_eq_getD_getElem?, hc, Option.getD_some]
  have hx := own_d hv1
  rcases row_inv (s := .none) hx with ⟨rfl, _⟩ | ⟨b, q, cap, e', _, _⟩
  · simp at hb; omega
  · rw [e'] at hx
    refine up_value (indexAt_run ho hok hs hz (hc'.trans e') hi hb.1 hb.2) (hn g1 _ _ (h1.dst hd fun s => ?_))
    have := VRel.eptr (g := g1) (w := w) (.tmp s) c xs i.toNat 0 b q cap (by omega) hx
    simpa using this
theorem op_indexAddr {t : TypeId} {x ix : Operand} (ho : o.op = .indexAddr t x ix) (hok : InfoOk P I) (h : Rep g0 w0 g w σ a N) (hd : ∀ t, o.dst = some t → t < N) (hr : (opM I ops o).run σ = some (true, ws)) (hn : ∀ g' a' w', Rep g0 w0 g' w' (σ.puts ws) a' N → next a' w') : o.wp P a w next Q := by
  unfold opM at hr
  rw [ho] at hr
  obtain ⟨u, hr, hu, hux, -⟩ := opd_sound h hr
  obtain ⟨v, hr, hv, -, -⟩ := opd_sound h hr
  have key : ∀ (e : TypeId) (c : List CT) (xs : List (List D)) (k : IntKind) (i : Int), I.und t = some (.slice e) → DRel g.stable w (.arr c) (.arr xs) (a.eval x) → a.eval ix = .int k i →
      (if I.size e = some c.length then (M.ret (decide (0 ≤ i) && decide (i < xs.length), dstW o.dst (.eptr c xs i.toNat 0)) : Step) else .fail).run σ = some (true, ws) → o.wp P a w next Q := by
    intro e c xs k i hs hx hi hr
    split at hr
    · rename_i hz
      obtain ⟨hb, hr⟩ := ret_ok hr
      simp only [Bool.and_eq_true, decide_eq_true_eq] at hb
      rcases row_inv (s := .none) hx with ⟨rfl, _⟩ | ⟨b, q, cap, e', _, _⟩
      · simp at hb; omega
      · rw [e'] at hx
        refine op_plain (v := .eptr c xs i.toNat 0) h hd (indexAt_run ho hok hs hz e' hi hb.1 hb.2) (fun s => ?_) hr hn
        have := VRel.eptr (g := g) (w := w) (.tmp s) c xs i.toNat 0 b q cap (by omega) hx
        simpa using this
    · cases hr
  cases hs : I.und t with
  | none => rw [hs] at hr; cases hr
  | some d =>
    rw [hs] at hr
    cases d <;> try (cases hr; done)
    case array len e =>
      cases u <;> try (cases hr; done)
      rename_i k off _
      cases v <;> try (cases hr; done)
      have e2 := val_inv hv
      rename_i val
      cases val <;> try (cases hr; done)
      rename_i kk i
      simp only at hr
      cases hz : I.size e with
      | none => rw [hz] at hr; cases hr
      | some sz =>
      rw [hz] at hr
      simp only at hr
      obtain ⟨hb, hr⟩ := ret_ok hr
      simp only [Bool.and_eq_true, decide_eq_true_eq] at hb
      obtain ⟨bb, hat, e'⟩ := ptr_inv hu
      obtain ⟨inf, hinf, hin⟩ := hok.size hz
      have h2 : (Instr.indexAt t (a.eval x) (a.eval ix)).run P w = .ok (.pointer (some (pl bb (off + i.toNat * sz)))) w := by
        rw [e', e2]
        simp [Instr.indexAt, asIntOf, und_run (hok.und hs), hb.1, hb.2, size_run hinf, hin, pl_add, Instr.sureAddr]
      refine op_plain (v := .ptr k (off + i.toNat * sz)) h hd ?_ (fun s => .ptr _ _ _ _ hat (ptr_key hu)) hr hn
      simp only [execOp, ho]
      show ((Instr.indexAt t (a.eval x) (a.eval ix)).bind _).run P w = _
      rw [run_then h2]
      rfl
    cases u <;> try (cases hr; done)
    all_goals
      cases v <;> try (cases hr; done)
      have e2 := val_inv hv
      rename_i val
      cases val <;> try (cases hr; done)
      first
      | exact key _ _ _ _ _ hs (by first | exact arr_d hu | exact own_d hu) e2 hr
      | exact op_indexUni ho hok h hd hs hux e2 hr hn
      | (simp only at hr
         split at hr
         · rename_i hz
           obtain ⟨hb, hr⟩ := ret_ok hr
           simp only [Bool.and_eq_true, decide_eq_true_eq] at hb
           obtain ⟨b, f, e', hm, hl, hcells⟩ := sarr_inv hu
           refine op_plain h hd (indexAt_run ho hok hs hz e' e2 hb.1 hb.2) (fun s => ?_) hr hn
           rw [Nat.zero_add]
           rw [e'] at hu
           exact VRel.sptr (g := g) (w := w) (.tmp s) _ _ _ b (by omega) (VRel.slot (by trivial) hu)
         · cases hr)
      | (simp only at hr
         split at hr
         · rename_i hz
           obtain ⟨hb, hr⟩ := ret_ok hr
           simp only [Bool.and_eq_true, decide_eq_true_eq] at hb
           obtain ⟨b, cap, n, q1, q2, q3, q4, q5, e'⟩ := ms_inv hu
           refine op_plain h hd (indexAt_run ho hok hs hz e' e2 hb.1 hb.2) (fun s => ?_) hr hn
           rw [← Nat.add_mul]
           exact VRel.mptr (g := g) (w := w) (.tmp s) _ _ _ 0 b n q1 q2 (by omega)
         · cases hr)

/-- An operation whose value the evaluator takes from a Sem. -/
theorem sem_run {s : Sem Value} {c : Value} {w' : World} (he : execOp a.eval o = s.bind fun v => .pure (.value v)) (hs : s.run P w = .ok c w') : (execOp a.eval o).run P w = .ok (.value c) w' := by
  rw [he, run_then hs]
  rfl
theorem callBuiltin {bt : Builtin} {args : Array Operand} {ats : Array TypeId} (ho : o.op = .call ⟨.builtin bt, args, ats⟩) : execOp a.eval o = builtin bt ats o.type (args.map fun | .const _ => true | _ => false) (args.map a.eval) := by
  simp only [execOp, ho]
  rfl
theorem op_len {args : Array Operand} {ats : Array TypeId} (ho : o.op = .call ⟨.builtin .len, args, ats⟩) (hok : InfoOk P I) (h : Rep g0 w0 g w σ a N) (hd : ∀ t, o.dst = some t → t < N) (hr : (opM I ops o).run σ = some (true, ws)) (hn : ∀ g' a' w', Rep g0 w0 g' w' (σ.puts ws) a' N → next a' w') : o.wp P a w next Q := by
  unfold opM at hr
  rw [ho] at hr
  simp only at hr
  cases hal : args.toList with
  | nil => rw [hal] at hr; cases hr
  | cons x r =>
    rw [hal] at hr
    cases r with
    | cons => cases hr
    | nil =>
      obtain rfl : args = #[x] := by cases args; simp_all
      simp only at hr
      cases hat : ats[0]? with
      | none => rw [hat] at hr; cases hr
      | some t =>
      rw [hat] at hr
      simp only at hr
      obtain ⟨u, hr, hu, -, -⟩ := opd_sound h hr
      have fin : ∀ (m : Nat), ((Builtin.len_ ats o.type #[a.eval x]).run P w = .ok (.int .i64 m) w) → (M.ret (true, dstW o.dst (.val (.int .i64 m))) : Step).run σ = some (true, ws) → o.wp P a w next Q := by
        intro m hm hr
        exact op_plain h hd (sem_run (s := Builtin.len_ ats o.type #[a.eval x]) (by rw [callBuiltin ho, show (#[x] : Array Operand).map a.eval = #[a.eval x] by simp]; rfl) hm) (fun _ => .val _ _) hr hn
      have slice : ∀ (cs : List CT) (xs : List (List D)) (e : TypeId), I.und t = some (.slice e) → DRel g.stable w (.arr cs) (.arr xs) (a.eval x) → (Builtin.len_ ats o.type #[a.eval x]).run P w = .ok (.int .i64 xs.length) w := by
        intro cs xs e ht hx
        rcases row_inv (s := .none) hx with ⟨rfl, p, e'⟩ | ⟨b, q, cap, e', _, _⟩ <;> rw [e'] <;> simp [Builtin.len_, hat, und_run (hok.und ht), goInt, nilSlice]
      cases ht : I.und t with
      | none => rw [ht] at hr; cases hr
      | some d =>
        rw [ht] at hr
        cases d <;> try (cases hr; done)
        · cases u <;> try (cases hr; done)
          have e := val_inv hu
          rename_i val
          cases val <;> try (cases hr; done)
          exact fin _ (by simp [e, Builtin.len_, hat, und_run (hok.und ht), goInt]) hr
        · simp only at hr
          split at hr
          · exact fin _ (slice _ _ _ ht (arr_d hu)) hr
          · exact fin _ (slice _ _ _ ht (own_d hu)) hr
          · cases hu with
            | uni _ _ _ _ hu =>
              rcases hu with ⟨rfl, e'⟩ | ⟨b, cap, cur, e1, e', _⟩ <;> exact fin _ (by rw [e']; simp [Builtin.len_, hat, und_run (hok.und ht), goInt, nilSlice]) hr
          · generalize hz : a.eval x = z at hu
            cases hu with
            | slen => exact fin _ (by rw [hz]; simp [Builtin.len_, hat, und_run (hok.und ht), goInt]) hr
          · obtain ⟨b, cap, n, q1, q2, q3, q4, q5, e'⟩ := ms_inv hu
            exact fin _ (by rw [e']; simp [Builtin.len_, hat, und_run (hok.und ht), goInt]) hr
          · obtain ⟨b, f, e', -⟩ := sarr_inv hu
            exact fin _ (by rw [e']; simp [Builtin.len_, hat, und_run (hok.und ht), goInt]) hr
          · have e := val_inv hu
            exact fin _ (by simp [e, Builtin.len_, hat, und_run (hok.und ht), goInt]) hr
          · cases hr
end
end Go.Proofs.YtacfehneeanlgaaDoor.Ev
namespace Go.Proofs.YtacfehneeanlgaaDoor.Ev
open Go
set_option linter.unusedVariables false
set_option linter.unusedSimpArgs false
section
variable {P : Program} {I : Info} {g0 g : Gh} {w0 w : World} {σ : St} {a : Act} {N : Nat} {o : Oper} {ops : List Oper} {next : Act → World → Prop} {Q : Exit → Act → World → Prop} {ws : List W} {b : Bool}

def OptRel (g : Gh) (w : World) (a : Act) : Option Operand → Option V → Prop
  | none, none => True
  | some x, some v => VRel g w (slotOf x) v (a.eval x)
  | _, _ => False
theorem optOpd_sound (h : Rep g0 w0 g w σ a N) {x : Option Operand} {k : Option V → Step} {r : Bool × List W} (hr : (optOpd x k).run σ = some r) :
    ∃ v, (k v).run σ = some r ∧ OptRel g w a x v := by
  cases x with
  | none => exact ⟨none, hr, trivial⟩
  | some x =>
    obtain ⟨v, hr, hv, -, -⟩ := opd_sound h hr
    exact ⟨some v, hr, hv⟩
theorem cut_length {α : Type} {xs : List α} {l h : Int} (h0 : 0 ≤ l) (h1 : l ≤ h) (h2 : h ≤ xs.length) : (cut xs l h).length = h.toNat - l.toNat := by
  unfold cut; rw [List.length_take, List.length_drop]; omega
theorem cut_getD {α : Type} {xs : List α} {l h : Int} {i : Nat} {d : α} (hi : i < (cut xs l h).length) : (cut xs l h).getD i d = xs.getD (l.toNat + i) d := by
  unfold cut at hi ⊢
  rw [List.length_take, List.length_drop] at hi
  simp only [List.getD_eq_getElem?_getD, List.getElem?_take, List.getElem?_drop]
  rw [if_pos (by omega)]
theorem DRel.cutTo {st : Nat → Nat → Prop} {cs : List CT} {xs : List (List D)} {b q cap : Nat} {l h : Int} (hx : DRel st w (.arr cs) (.arr xs) (.slice (some (pl b q)) xs.length cap)) (h0 : 0 ≤ l) (h1 : l ≤ h) (h2 : h ≤ xs.length) (q' : Nat) (hq : h.toNat = l.toNat ∨ q' = q + l.toNat * cs.length) (cap' : Nat) (hc1 : h.toNat - l.toNat ≤ cap') (hc2 : cap' ≤ cap) :
    DRel st w (.arr cs) (.arr (cut xs l h)) (.slice (some (pl b q')) (h.toNat - l.toNat) cap') := by
  have hlen := cut_length h0 h1 h2
  generalize hd : D.arr xs = d at hx
  generalize hv : Value.slice (some (pl b q)) xs.length cap = v at hx
  cases hx with
  | nil _ _ p h3 =>
    simp only [Value.slice.injEq] at hv
    obtain ⟨rfl, hl, rfl⟩ := hv
    subst hd
    have hx : xs = [] := h3
    subst hx
    have hl0 : l = 0 := by simp at h2; omega
    have hh0 : h = 0 := by simp at h2; omega
    subst hl0; subst hh0
    have : cap' = 0 := by omega
    subst this
    exact .nil _ _ _ rfl
  | arr _ _ b' q0 cap0 f hn hm hc hd' =>
    simp only [Value.slice.injEq, Option.some.injEq, Addr.mk.injEq, and_true] at hv
    obtain ⟨⟨rfl, rfl⟩, -, rfl⟩ := hv
    subst hd
    have e : (D.arr (Ev.cut xs l h)).toArr = Ev.cut xs l h := rfl
    have := DRel.arr (st := st) (w := w) cs (.arr (Ev.cut xs l h)) b q' cap' (fun i j => f (l.toNat + i) j) (by rw [e, hlen]; exact hc1) (by omega) (fun i j hi hj => ?_) (fun i j c hi hj => ?_)
    · rw [e, hlen] at this; exact this
    · rw [e, hlen] at hi
      have hq' : q' = q + l.toNat * cs.length := by rcases hq with hq | hq; omega; exact hq
      have := hc (l.toNat + i) j (by simp only [D.toArr]; omega) hj
      rw [hq', show q + l.toNat * cs.length + i * cs.length + j = q + (l.toNat + i) * cs.length + j by rw [Nat.add_mul]; omega]
      exact this
    · rw [e] at hi
      have := hd' (l.toNat + i) j c (by rw [hlen] at hi; simp only [D.toArr]; omega) hj
      rw [e, cut_getD hi]
      exact this

theorem DRel.cap_le {st : Nat → Nat → Prop} {cs : List CT} {xs : List (List D)} {p : Option Addr} {n cap : Nat} (hx : DRel st w (.arr cs) (.arr xs) (.slice p n cap)) : xs.length = n ∧ n ≤ cap ∧ cap ≤ maxLen := by
  generalize hd : D.arr xs = d at hx
  generalize hv : Value.slice p n cap = v at hx
  cases hx with
  | nil _ _ p h3 =>
    simp only [Value.slice.injEq] at hv
    obtain ⟨rfl, rfl, rfl⟩ := hv
    subst hd
    have hx : xs = [] := h3
    subst hx
    simp
  | arr _ _ b' q0 cap0 f hn hm hc hd' =>
    simp only [Value.slice.injEq] at hv
    obtain ⟨rfl, rfl, rfl⟩ := hv
    subst hd
    exact ⟨rfl, hn, hm⟩
theorem DRel.cut {st : Nat → Nat → Prop} {cs : List CT} {xs : List (List D)} {b q cap : Nat} {l h : Int} (hx : DRel st w (.arr cs) (.arr xs) (.slice (some (pl b q)) xs.length cap)) (h0 : 0 ≤ l) (h1 : l ≤ h) (h2 : h ≤ xs.length) (q' : Nat) (hq : h.toNat = l.toNat ∨ q' = q + l.toNat * cs.length) :
    DRel st w (.arr cs) (.arr (cut xs l h)) (.slice (some (pl b q')) (h.toNat - l.toNat) (cap - l.toNat)) :=
  hx.cutTo h0 h1 h2 q' hq _ (by have := hx.cap_le; omega) (by omega)

theorem bounds_run {isS : Bool} {n cap : Nat} {lo hi : Option Operand} {l h : Int} {vl vh : Option V} (hl : OptRel g w a lo vl)
    (hh : OptRel g w a hi vh) (e1 : intOr 0 vl = some l) (e2 : intOr n vh = some h) (h0 : 0 ≤ l) (h1 : l ≤ h) (h2 : h ≤ n) (hc : n ≤ cap) :
    (Instr.sliceBounds isS n cap (lo.map a.eval) (hi.map a.eval) none).run P w = .ok (l.toNat, h.toNat, cap) w := by
  have hhi : (match hi.map a.eval, (none : Option Value) with | some v, some _ => Instr.sliceBound v cap .slice3B | some v, none => Instr.sliceBound v cap (if isS then .sliceAcap else .sliceAlen) | none, none => pure n | none, some _ => stuck "Slice: max without high").run P w = .ok h.toNat w := by
    cases hi with
    | none =>
      cases vh with
      | none => simp only [intOr, Option.some.injEq] at e2; subst e2; simp
      | some => exact hh.elim
    | some x =>
      cases vh with
      | none => exact hh.elim
      | some v =>
        cases v <;> simp [intOr] at e2
        rename_i val
        cases val <;> simp at e2
        subst e2
        have := val_inv hh
        rename_i m
        have h3 : 0 ≤ m := by omega
        have h4 : m ≤ (cap : Int) := by omega
        simp [Instr.sliceBound, this, asIntOf, h3, h4]
  have hlo : (match lo.map a.eval with | some v => Instr.sliceBound v h.toNat (if (none : Option Value).isSome then .slice3C else .sliceB) | none => pure 0).run P w = .ok l.toNat w := by
    cases lo with
    | none =>
      cases vl with
      | none => simp only [intOr, Option.some.injEq] at e1; subst e1; simp
      | some => exact hl.elim
    | some x =>
      cases vl with
      | none => exact hl.elim
      | some v =>
        cases v <;> simp [intOr] at e1
        rename_i val
        cases val <;> simp at e1
        subst e1
        have := val_inv hl
        rename_i m
        have h3 : m ≤ (h.toNat : Int) := by omega
        unfold Instr.sliceBound
        simp only [Option.map_some, this, asIntOf, Sem.run_bind, Sem.run_pure, Result.andThen_ok, h0, h3, and_self, if_true]
  unfold Instr.sliceBounds
  simp only [Sem.run_bind, Sem.run_pure]
  cases hi <;> cases lo <;> simp_all

theorem zero3_eq {lo hi mx : Option Operand} (h : zero3 lo hi mx = true) : lo = none ∧ (∃ k, hi = some (.const (.int k 0))) ∧ ∃ k, mx = some (.const (.int k 0)) := by
  unfold zero3 at h
  split at h
  · simp only [Bool.and_eq_true, beq_iff_eq] at h
    obtain ⟨rfl, rfl⟩ := h
    exact ⟨rfl, ⟨_, rfl⟩, _, rfl⟩
  · cases h
theorem op_slice {t : TypeId} {x : Operand} {lo hi mx : Option Operand} (ho : o.op = .slice t x lo hi mx) (hok : InfoOk P I) (h : Rep g0 w0 g w σ a N) (hd : ∀ t, o.dst = some t → t < N) (hr : (opM I ops o).run σ = some (true, ws)) (hn : ∀ g' a' w', Rep g0 w0 g' w' (σ.puts ws) a' N → next a' w') : o.wp P a w next Q := by
  unfold opM at hr
  rw [ho] at hr
  obtain ⟨u, hr1, hu, -, -⟩ := opd_sound h hr
  clear hr
  obtain ⟨vl, hr2, hl⟩ := optOpd_sound h hr1
  clear hr1
  obtain ⟨vh, hr, hh⟩ := optOpd_sound h hr2
  clear hr2
  cases mx with
  | some mo =>
    split at hr
    · cases ‹some mo = none›
    · cases ‹some mo = none›
    · cases ‹some mo = none›
    · cases ‹some mo = none›
    · rename_i mo' e c xs hmo ht
      cases hmo
      obtain ⟨um, hr, hum, -, -⟩ := opd_sound h hr
      split at hr
      case h_2 => cases hr
      rename_i l k1 hh' k2 mm e1 hold
      split at hr
      case isFalse => cases hr
      rename_i hsz
      obtain ⟨hb, hr⟩ := ret_ok hr
      simp only [okBounds, Bool.and_eq_true, decide_eq_true_eq] at hb
      obtain ⟨⟨⟨b1, b2⟩, b3⟩, b4⟩ := hb
      obtain ⟨inf, hinf, hin⟩ := hok.size hsz
      have hmv := val_inv hum
      have he : execOp a.eval o = (Instr.sliceAt t (a.eval x) (lo.map a.eval) (hi.map a.eval) (some (a.eval mo))).bind fun v => .pure (.value v) := by
        simp only [execOp, ho]; rfl
      have hx := arr_d hu
      have hhi : hi.map a.eval = some (.int k1 hh') := by
        cases hi with
        | none => exact hh.elim
        | some y => simp only [Option.map_some]; rw [val_inv hh]
      have hlo : ∀ n : Nat, l ≤ n → (match lo.map a.eval with | some v => Instr.sliceBound v n (if (some (a.eval mo) : Option Value).isSome then .slice3C else .sliceB) | none => pure 0).run P w = .ok l.toNat w := by
        intro n hln
        cases lo with
        | none =>
          cases vl with
          | none => simp only [intOr, Option.some.injEq] at e1; subst e1; simp
          | some => exact hl.elim
        | some y =>
          cases vl with
          | none => exact hl.elim
          | some v =>
            cases v <;> simp [intOr] at e1
            rename_i val
            cases val <;> simp at e1
            subst e1
            have := val_inv hl
            unfold Instr.sliceBound
            simp only [Option.map_some, this, asIntOf, Sem.run_bind, Sem.run_pure, Result.andThen_ok, b1, hln, and_self, if_true]
      have hcl := fun (p : Option Addr) (n cap : Nat) (hp : a.eval x = .slice p n cap) => DRel.cap_le (hp ▸ hx)
      have bnd : ∀ cap : Nat, xs.length ≤ cap → (Instr.sliceBounds true xs.length cap (lo.map a.eval) (hi.map a.eval) (some (a.eval mo))).run P w = .ok (l.toNat, hh'.toNat, mm.toNat) w := by
        intro cap hcap
        unfold Instr.sliceBounds
        rw [hhi, hmv]
        have m1 : 0 ≤ mm ∧ mm ≤ (cap : Int) := by omega
        have m2 : 0 ≤ hh' ∧ hh' ≤ ((mm.toNat : Nat) : Int) := by omega
        have e3 : (Instr.sliceBound (.int k2 mm) cap .slice3Acap).run P w = .ok mm.toNat w := by
          unfold Instr.sliceBound
          simp only [asIntOf, Sem.run_bind, Sem.run_pure, Result.andThen_ok, m1, and_self, if_true]
        have e4 : (Instr.sliceBound (.int k1 hh') mm.toNat .slice3B).run P w = .ok hh'.toNat w := by
          unfold Instr.sliceBound
          simp only [asIntOf, Sem.run_bind, Sem.run_pure, Result.andThen_ok, m2, and_self, if_true]
        have e5 := hlo hh'.toNat (by omega)
        rw [hmv] at e5
        simp only [Sem.run_bind, Sem.run_pure, if_true, e3, Result.andThen_ok, e4]
        cases hlo' : lo.map a.eval with
        | none =>
          rw [hlo'] at e5
          have e6 : (0 : Nat) = l.toNat := by simpa using e5
          simp [e6]
        | some v =>
          rw [hlo'] at e5
          simp only at e5
          simp only [Sem.run_bind, e5, Result.andThen_ok, Sem.run_pure]
      have hz : zero3 lo hi (some mo) = true → l = 0 ∧ hh' = 0 ∧ mm = 0 := by
        intro hz
        obtain ⟨e3, ⟨k3, e4⟩, k4, e5⟩ := zero3_eq hz
        subst e3; subst e4; cases e5
        refine ⟨?_, ?_, ?_⟩
        · cases vl with
          | none => simp only [intOr, Option.some.injEq] at e1; exact e1.symm
          | some => exact hl.elim
        · simp only [Option.map_some, Option.some.injEq] at hhi
          have : Value.int k3 0 = .int k1 hh' := hhi
          cases this; rfl
        · have : Value.int k4 0 = .int k2 mm := hmv
          cases this; rfl
      rcases row_inv (s := .none) hx with ⟨rfl, p, e'⟩ | ⟨b, q, cap, e', hc, hm⟩
      · have hb' := bnd 0 (by simp)
        simp at b4
        have l0 : l = 0 := by omega
        have h0 : hh' = 0 := by omega
        have m0 : mm = 0 := by omega
        subst l0; subst h0; subst m0
        have : (Instr.sliceAt t (a.eval x) (lo.map a.eval) (hi.map a.eval) (some (a.eval mo))).run P w = .ok (.slice p 0 0) w := by
          simp only [List.length_nil] at hb'
          cases p <;> simp [Instr.sliceAt, Instr.slice, und_run (hok.und ht), e', hb', size_run hinf]
        cases hzz : zero3 lo hi (some mo) with
        | false => rw [hzz] at hr; exact op_plain h hd (sem_run he this) (fun _ => .arr _ _ _ _ (.nil _ _ _ rfl)) hr hn
        | true => rw [hzz] at hr; exact op_plain h hd (sem_run he this) (fun _ => .own _ _ _ _ (.nil _ _ _ rfl) (.inr (.inl ⟨rfl, p, rfl⟩))) hr hn
      · have hb' := bnd cap hc
        have : (Instr.sliceAt t (a.eval x) (lo.map a.eval) (hi.map a.eval) (some (a.eval mo))).run P w = .ok (.slice (some (pl b (if mm.toNat = l.toNat then q else q + l.toNat * c.length))) (hh'.toNat - l.toNat) (mm.toNat - l.toNat)) w := by
          simp [Instr.sliceAt, Instr.slice, und_run (hok.und ht), e', hb', size_run hinf, hin, pl_add]
          split <;> rfl
        cases hzz : zero3 lo hi (some mo) with
        | true =>
          rw [hzz] at hr
          obtain ⟨z1, z2, z3⟩ := hz hzz
          refine op_plain (v := .own c []) h hd (sem_run he this) (fun _ => ?_) hr hn
          have e1 : hh'.toNat - l.toNat = 0 := by omega
          have e2 : mm.toNat - l.toNat = 0 := by omega
          rw [e1, e2]
          exact .own _ _ _ _ (.nil _ _ _ rfl) (.inr (.inl ⟨rfl, _, rfl⟩))
        | false =>
        rw [hzz] at hr
        refine op_plain h hd (sem_run he this) (fun _ => .arr _ _ _ _ ?_) hr hn
        rw [e'] at hx
        refine hx.cutTo b1 b2 (by omega) _ ?_ _ (by omega) (by omega)
        split
        · left; omega
        · right; rfl
    · cases hr
  | none =>
  cases ht : I.und t with
  | none => rw [ht] at hr; cases hr
  | some d =>
  rw [ht] at hr
  have he : execOp a.eval o = (Instr.sliceAt t (a.eval x) (lo.map a.eval) (hi.map a.eval) none).bind fun v => .pure (.value v) := by
    simp only [execOp, ho]; rfl
  have slice : ∀ (e : TypeId) (cs : List CT) (xs : List (List D)), d = .slice e → DRel g.stable w (.arr cs) (.arr xs) (a.eval x) →
      (match intOr 0 vl, intOr xs.length vh with | some l, some h => if I.size e = some cs.length then (M.ret (okBounds l h xs.length, dstW o.dst (.arr cs (cut xs l h))) : Step) else .fail | _, _ => .fail).run σ = some (true, ws) → o.wp P a w next Q := by
    rintro e cs xs rfl hx hr
    cases e1 : intOr 0 vl with
    | none => rw [e1] at hr; cases hr
    | some l =>
    cases e2 : intOr xs.length vh with
    | none => rw [e1, e2] at hr; cases hr
    | some h' =>
    rw [e1, e2] at hr
    simp only at hr
    split at hr
    · rename_i hsz
      obtain ⟨hb, hr⟩ := ret_ok hr
      simp only [okBounds, Bool.and_eq_true, decide_eq_true_eq] at hb
      obtain ⟨inf, hinf, hin⟩ := hok.size hsz
      rcases row_inv (s := .none) hx with ⟨rfl, p, e'⟩ | ⟨b, q, cap, e', hc, hm⟩
      · have hb' := bounds_run (P := P) (isS := true) (cap := 0) hl hh e1 e2 hb.1.1 hb.1.2 hb.2 (by simp)
        simp at hb
        have l0 : l = 0 := by omega
        have h0 : h' = 0 := by omega
        subst l0; subst h0
        have : (Instr.sliceAt t (a.eval x) (lo.map a.eval) (hi.map a.eval) none).run P w = .ok (.slice p 0 0) w := by
          simp at hb'
          cases p <;> simp [Instr.sliceAt, Instr.slice, und_run (hok.und ht), e', nilSlice, hb', size_run hinf]
        exact op_plain h hd (sem_run he this) (fun _ => .arr _ _ _ _ (.nil _ _ _ rfl)) hr hn
      · have hb' := bounds_run (P := P) (isS := true) (cap := cap) hl hh e1 e2 hb.1.1 hb.1.2 hb.2 hc
        have : (Instr.sliceAt t (a.eval x) (lo.map a.eval) (hi.map a.eval) none).run P w = .ok (.slice (some (pl b (if cap = l.toNat then q else q + l.toNat * cs.length))) (h'.toNat - l.toNat) (cap - l.toNat)) w := by
          simp [Instr.sliceAt, Instr.slice, und_run (hok.und ht), e', hb', size_run hinf, hin, pl_add]
          split <;> rfl
        refine op_plain h hd (sem_run he this) (fun _ => .arr _ _ _ _ ?_) hr hn
        rw [e'] at hx
        refine hx.cut hb.1.1 hb.1.2 hb.2 _ ?_
        split
        · left; omega
        · right; rfl
    · cases hr
  cases d <;> try (cases hr; done)
  · cases u <;> try (cases hr; done)
    rename_i val
    have e := val_inv hu
    cases val <;> try (cases hr; done)
    rename_i s
    simp only at hr
    cases e1 : intOr 0 vl with
    | none => rw [e1] at hr; cases hr
    | some l =>
    cases e2 : intOr s.size vh with
    | none => rw [e1, e2] at hr; cases hr
    | some h' =>
    rw [e1, e2] at hr
    simp only at hr
    obtain ⟨hb, hr⟩ := ret_ok hr
    simp only [okBounds, Bool.and_eq_true, decide_eq_true_eq] at hb
    have hb' := bounds_run (P := P) (isS := false) (cap := s.size) hl hh e1 e2 hb.1.1 hb.1.2 hb.2 (by omega)
    have : (Instr.sliceAt t (a.eval x) (lo.map a.eval) (hi.map a.eval) none).run P w = .ok (.string (s.extract l.toNat h'.toNat)) w := by
      simp [Instr.sliceAt, Instr.slice, und_run (hok.und ht), e, hb']
    exact op_plain h hd (sem_run he this) (fun _ => .val _ _) hr hn
  · cases u <;> try (cases hr; done)
    · exact slice _ _ _ rfl (arr_d hu) hr
    · exact slice _ _ _ rfl (own_d hu) hr
    · rename_i e bk cs off len
      simp only at hr
      cases e1 : intOr 0 vl with
      | none => rw [e1] at hr; cases hr
      | some l =>
      cases e2 : intOr len vh with
      | none => rw [e1, e2] at hr; cases hr
      | some h' =>
      rw [e1, e2] at hr
      simp only at hr
      split at hr
      · rename_i hsz
        obtain ⟨hb, hr⟩ := ret_ok hr
        simp only [okBounds, Bool.and_eq_true, decide_eq_true_eq] at hb
        obtain ⟨inf, hinf, hin⟩ := hok.size hsz
        obtain ⟨b, cap, n, q1, q2, q3, q4, q5, e'⟩ := ms_inv hu
        have hb' := bounds_run (P := P) (isS := true) (cap := cap) hl hh e1 e2 hb.1.1.1 hb.1.1.2 hb.1.2 q4
        have hne : ¬ cap = l.toNat := by omega
        have : (Instr.sliceAt t (a.eval x) (lo.map a.eval) (hi.map a.eval) none).run P w = .ok (.slice (some (pl b ((off + l.toNat) * cs.length))) (h'.toNat - l.toNat) (cap - l.toNat)) w := by
          rw [Nat.add_mul]
          simp [Instr.sliceAt, Instr.slice, und_run (hok.und ht), e', hb', size_run hinf, hin, pl_add, hne]
        exact op_plain h hd (sem_run he this) (fun _ => .ms _ _ _ _ _ _ _ _ q1 q2 (by omega) (by omega) ⟨by omega, by omega⟩) hr hn
      · cases hr

theorem intsK_get {k : IntKind} : ∀ {vs : List V} {ns : List Int}, intsK k vs = some ns → ∀ i (hi : i < ns.length), vs[i]? = some (.val (.int k ns[i]))
  | [], ns, h, i, hi => by cases h; simp at hi
  | v :: vs, ns, h, i, hi => by
    unfold intsK at h
    split at h
    · cases h; simp at hi
    · rename_i k' n r heq
      cases heq
      split at h
      · rename_i e; subst e
        simp only [Option.map_eq_some_iff] at h
        obtain ⟨l, hl, rfl⟩ := h
        cases i with
        | zero => rfl
        | succ i => simpa using intsK_get hl i (by simpa using hi)
      · cases h
    · cases h
theorem intsOf_get {k : IntKind} {vs : List V} {ns : List Int} (h : intsOf vs = some (k, ns)) : ∀ i (hi : i < ns.length), vs[i]? = some (.val (.int k ns[i])) := by
  unfold intsOf at h
  split at h
  · simp only [Option.map_eq_some_iff, Prod.mk.injEq] at h
    obtain ⟨l, hl, rfl, rfl⟩ := h
    intro i hi
    cases i with
    | zero => rfl
    | succ i => simpa using intsK_get hl i (by simpa using hi)
  · cases h
theorem op_index {t : TypeId} {x ix : Operand} (ho : o.op = .index t x ix) (hok : InfoOk P I) (h : Rep g0 w0 g w σ a N) (hd : ∀ t, o.dst = some t → t < N) (hr : (opM I ops o).run σ = some (true, ws)) (hn : ∀ g' a' w', Rep g0 w0 g' w' (σ.puts ws) a' N → next a' w') : o.wp P a w next Q := by
  unfold opM at hr
  rw [ho] at hr
  obtain ⟨u, hr1, hu, -, -⟩ := opd_sound h hr
  clear hr
  obtain ⟨v, hr, hv, -, -⟩ := opd_sound h hr1
  clear hr1
  have he : execOp a.eval o = (Instr.index t (a.eval x) (a.eval ix)).bind fun v => .pure (.value v) := by
    simp only [execOp, ho]; rfl
  cases ht : I.und t with
  | none => rw [ht] at hr; cases hr
  | some d =>
  rw [ht] at hr
  cases d <;> try (cases hr; done)
  case array len e =>
    cases u <;> try (cases hr; done)
    rename_i vs
    cases v <;> try (cases hr; done)
    rename_i val
    have e2 := val_inv hv
    cases val <;> try (cases hr; done)
    rename_i k i
    simp only at hr
    generalize hcx : a.eval x = c at hu
    split at hr
    · rename_i hag hsz
      obtain ⟨ti, hti, htn⟩ := hok.size hsz
      split at hr
      · rename_i k2 ns hns
        split at hr
        case isFalse => cases hr
        rename_i hlen
        obtain ⟨hb, hr⟩ := ret_ok hr
        simp only [Bool.and_eq_true, decide_eq_true_eq] at hb
        have hget := intsOf_get hns
        have hnl : i.toNat < ns.length := by omega
        have hvi := hget i.toNat hnl
        cases hu with
        | agg _ _ cs hl hf hcs =>
          have hlt := (List.getElem?_eq_some_iff.1 hvi).1
          have hc : cs[i.toNat]? = some (cs[i.toNat]'(by omega)) := Array.getElem?_eq_getElem _
          have hval := val_inv (hcs _ _ _ hvi hc)
          rw [hval] at hc
          have hgd : ns.getD i.toNat 0 = ns[i.toNat] := by rw [List.getD_eq_getElem?_getD, List.getElem?_eq_getElem hnl]; rfl
          rw [hgd] at hr
          refine op_plain h hd (sem_run he ?_) (fun s => .val _ _) hr hn
          have hi1 : (i.toNat : Nat) * 1 = i.toNat := Nat.mul_one _
          rw [hcx, e2]
          simp [Instr.index, asIntOf, und_run (hok.und ht), hb.1, hb.2, size_run hti, htn, part, (isAgg_run hok hag w).1, hc]
      · split at hr
        case h_2 => cases hr
        rename_i v1 hvi
        obtain ⟨hb, hr⟩ := ret_ok hr
        simp only [Bool.and_eq_true, decide_eq_true_eq] at hb
        cases hu with
        | agg _ _ cs hl hf hcs =>
          have hlt := (List.getElem?_eq_some_iff.1 hvi).1
          have hc : cs[i.toNat]? = some (cs[i.toNat]'(by omega)) := Array.getElem?_eq_getElem _
          have hfl := hf _ _ hvi
          refine op_plain (v := v1.view) h hd (sem_run he ?_) (fun s => (hcs _ _ _ hvi hc).viewed (by rintro us rfl; exact hfl)) hr hn
          have hi1 : (i.toNat : Nat) * 1 = i.toNat := Nat.mul_one _
          rw [hcx, e2]
          simp [Instr.index, asIntOf, und_run (hok.und ht), hb.1, hb.2, size_run hti, htn, part, (isAgg_run hok hag w).1, hc]
    · rename_i sz hag hsz
      obtain ⟨ti, hti, htn⟩ := hok.size hsz
      split at hr
      case isFalse => cases hr
      rename_i hlen
      obtain ⟨hb, hr⟩ := ret_ok hr
      simp only [Bool.and_eq_true, decide_eq_true_eq] at hb
      cases hu with
      | agg _ _ cs hl hf hcs =>
        refine op_plain (v := .agg ((vs.drop (i.toNat * sz)).take sz)) (c := .agg (cs.extract (i.toNat * sz) (i.toNat * sz + sz))) h hd (sem_run he ?_) (fun s => ?_) hr hn
        · rw [hcx, e2]
          simp [Instr.index, asIntOf, und_run (hok.und ht), hb.1, hb.2, size_run hti, htn, part, (isAgg_run hok hag w).1]
        · have hget : ∀ m v, ((vs.drop (i.toNat * sz)).take sz)[m]? = some v → m < sz ∧ vs[i.toNat * sz + m]? = some v := fun m v hv => by
            rw [List.getElem?_take] at hv
            split at hv
            · rename_i hm; rw [List.getElem?_drop] at hv; exact ⟨hm, hv⟩
            · cases hv
          refine .agg _ _ _ (by simp; omega) (fun m v hv => hf _ _ (hget m v hv).2) (fun m v c' hv hc' => ?_)
          obtain ⟨hm, hv⟩ := hget m v hv
          refine hcs _ _ c' hv ?_
          rw [Array.getElem?_extract] at hc'
          split at hc'
          · exact hc'
          · cases hc'
    · cases hr
  cases u <;> try (cases hr; done)
  rename_i val
  have e1 := val_inv hu
  cases val <;> try (cases hr; done)
  cases v <;> try (cases hr; done)
  rename_i val
  have e2 := val_inv hv
  cases val <;> try (cases hr; done)
  rename_i s k i
  obtain ⟨hb, hr⟩ := ret_ok hr
  simp only [Bool.and_eq_true, decide_eq_true_eq] at hb
  have hlt : i.toNat < s.size := by omega
  have : (Instr.index t (a.eval x) (a.eval ix)).run P w = .ok (.int .u8 (byteAt s i)) w := by
    have hg : s[i.toNat]? = some s[i.toNat] := getElem?_pos s i.toNat hlt
    have hB : byteAt s i = (s[i.toNat].toNat : Int) := by
      unfold byteAt
      rw [List.getD_eq_getElem?_getD, List.getElem?_eq_getElem (by simpa using hlt)]
      rfl
    simp [Instr.index, e1, e2, asIntOf, und_run (hok.und ht), hb.1, hg, hB]
  exact op_plain h hd (sem_run he this) (fun _ => .val _ _) hr hn
end
end Go.Proofs.YtacfehneeanlgaaDoor.Ev
namespace Go.Proofs.YtacfehneeanlgaaDoor.Ev
open Go
set_option linter.unusedVariables false
set_option linter.unusedSimpArgs false
section
variable {P : Program} {I : Info} {g0 g : Gh} {w0 w : World} {σ : St} {a : Act} {N : Nat} {o : Oper} {ops : List Oper} {next : Act → World → Prop} {Q : Exit → Act → World → Prop} {ws : List W} {b : Bool}

/-! ### Worlds with other draws, new blocks -/
theorem Rep.sameHeap (h : Rep g0 w0 g w σ a N) {w' : World} (hh : w'.heap = w.heap) (ho : w'.os = w.os) (ht : w'.tape = w.tape) (hu : w'.output = w.output) : Rep g0 w0 g w' σ a N := by
  have hc : ∀ b q, w'.cell? (pl b q) = w.cell? (pl b q) := fun b q => by simp [World.cell?, hh]
  have hst : ∀ b q c, g.stable b q → w.cell? (pl b q) = some c → g.stable b q ∧ w'.cell? (pl b q) = some c := fun b q c h1 h2 => ⟨h1, by rw [hc]; exact h2⟩
  have mv : ∀ s v c, VRel g w s v c → VRel g w' s v c := fun s v c hv => h.mono_slot hst (fun _ _ h => h) hv (fun r b l _ h1 => ⟨h1, by rw [hh]⟩)
  refine ⟨fun t v hv => ?_, fun k cs hk => ?_, fun b hb => h.fresh b (by rw [← hh]; exact hb), h.base, ?_, h.defers, h.size, h.live, h.nones⟩
  · obtain ⟨c, h1, h2⟩ := h.env t v hv
    exact ⟨c, h1, mv _ _ _ h2⟩
  · exact (h.box k cs hk).mono hst (fun b h1 h2 => ⟨h1, h2, by rw [hh]⟩) (fun _ h => h) (fun i v c _ _ hv => mv _ _ _ hv)
  · refine h.evol.trans h.base.1 ⟨ho, ht, hu, by rw [hh]; exact Nat.le_refl _, fun b _ h1 => ⟨by rw [hh], h1⟩, fun b l h1 => ⟨by rw [hh], h1⟩, fun b s l h1 => ⟨fun q c _ hq => by rw [hc]; exact hq, .inr (.inr ⟨s, l, h1, Nat.le_refl _⟩)⟩, fun _ _ h => h, fun _ _ h => h⟩
theorem heap_push_old (w : World) (x : Obj) {b : Nat} (hb : b < w.heap.size) : (w.alloc x).heap[b]? = w.heap[b]? := by
  simp only [World.alloc]
  rw [Array.getElem?_push_lt hb, Array.getElem?_eq_getElem hb]
theorem heap_push_new (w : World) (x : Obj) : (w.alloc x).heap[w.heap.size]? = some x := by simp only [World.alloc, Array.getElem?_push_size]
theorem cell_push (w : World) (x : Obj) {b q : Nat} {c : Value} (hc : w.cell? (pl b q) = some c) : (w.alloc x).cell? (pl b q) = some c := by
  rw [cell_of_heap (heap_push_old w x (cell_lt hc))]; exact hc
theorem stable_push (h : Rep g0 w0 g w σ a N) (x : Obj) (p : Perm) : ∀ b q c, g.stable b q → w.cell? (pl b q) = some c → (g.set w.heap.size p).stable b q ∧ (w.alloc x).cell? (pl b q) = some c := by
  intro b q c h1 h2
  refine ⟨?_, cell_push w x h2⟩
  have := cell_lt h2
  simp only [Gh.stable, Gh.set, show b ≠ w.heap.size by omega, if_false]
  exact h1
/-- Values stay where a block is made. -/
theorem VRel.push (h : Rep g0 w0 g w σ a N) (x : Obj) (p : Perm) {s : Slot} {v : V} {c : Value} (hv : VRel g w s v c) : VRel (g.set w.heap.size p) (w.alloc x) s v c :=
  h.mono_slot (stable_push h x p) (fun _ _ h => h) hv (fun r b l _ ho => by
    have := own_lt h ho (by simp)
    exact ⟨by simp only [Gh.set, show b ≠ w.heap.size by omega, if_false]; exact ho, heap_push_old w x this⟩)
/-- A new block. -/
theorem Rep.newBlock (h : Rep g0 w0 g w σ a N) (x : Obj) (p : Perm) (hp : ∀ r l, p = .arr r l → ¬ Slot.under .none r) : Rep g0 w0 (g.set w.heap.size p) (w.alloc x) σ a N := by
  have set_ne : ∀ b, b < w.heap.size → (g.set w.heap.size p).own b = g.own b := fun b hb => by simp only [Gh.set, show b ≠ w.heap.size by omega, if_false]
  have hsz : (w.alloc x).heap.size = w.heap.size + 1 := by simp only [World.alloc, Array.size_push]
  refine ⟨fun t v hv => ?_, fun k cs hk => ?_, fun b hb => ?_, h.base, ?_, h.defers, h.size, h.live, fun b r l hu ho => ?_⟩
  · obtain ⟨c, h1, h2⟩ := h.env t v hv
    exact ⟨c, h1, h2.push h x p⟩
  · refine (h.box k cs hk).mono (stable_push h x p) (fun b h1 h2 => ?_) (fun _ h => h) (fun i v c _ _ hv => hv.push h x p)
    have hb := own_lt h h2 (by simp)
    exact ⟨h1, by rw [set_ne b hb]; exact h2, heap_push_old w x hb⟩
  · rw [hsz] at hb
    simp only [Gh.set, show b ≠ w.heap.size by omega, if_false]
    exact h.fresh b (by omega)
  · refine h.evol.trans h.base.1 ⟨rfl, rfl, rfl, by rw [hsz]; omega, fun b hb ho => ⟨heap_push_old w x hb, by rw [set_ne b hb]; exact ho⟩, fun b l ho => ?_, fun b s l ho => ?_, fun b k ho => ?_, fun _ _ h => h⟩
    · have hb := own_lt h ho (by simp)
      exact ⟨heap_push_old w x hb, by rw [set_ne b hb]; exact ho⟩
    · have hb := own_lt h ho (by simp)
      exact ⟨fun q c _ hq => cell_push w x hq, .inr (.inr ⟨s, l, by rw [set_ne b hb]; exact ho, Nat.le_refl _⟩)⟩
    · have hb := own_lt h ho (by simp)
      rw [set_ne b hb]; exact ho
  · by_cases e : b = w.heap.size
    · subst e
      simp only [Gh.set, if_true] at ho
      exact hp r l ho hu
    · simp only [Gh.set, e, if_false] at ho
      exact h.nones b r l hu ho
theorem heap_lt {w : World} {b : Nat} {x : Obj} (h : w.heap[b]? = some x) : b < w.heap.size := by
  obtain ⟨h, _⟩ := Array.getElem?_eq_some_iff.1 h; exact h
/-- A box or a map is made. -/
theorem Rep.newKey (h : Rep g0 w0 g w σ a N) {k0 : Key} (hk0 : ∀ i, k0 ≠ .out i) (hk1 : k0.base = k0) (hf : σ.cells k0 = none) (cs : List V) (x : Obj) (f : Slot → Slot) (hfn : ∀ r, (f r).root = .none → r.root = .none)
    (hs : ∀ u v, σ.tmp u = some v → okFor f (.tmp u) v) (hb : ∀ k cs o v, σ.cells k = some cs → cs[o]? = some v → okFor f (.cell k o) v)
    (hnew : (∀ s v c, VRel (g.ren f) w s v c → VRel (((g.ren f).set w.heap.size (.box k0)).setAt k0 w.heap.size) (w.alloc x) s v c) → BoxRel (((g.ren f).set w.heap.size (.box k0)).setAt k0 w.heap.size) (w.alloc x) k0 cs) :
    Rep g0 w0 (((g.ren f).set w.heap.size (.box k0)).setAt k0 w.heap.size) (w.alloc x) (σ.put (.box k0 cs)) a N := by
  have hr := h.rename f hfn hs hb
  have h1 := hr.newBlock x (.box k0) (by simp)
  have hnone : (g.ren f).at_ k0 = none := by
    cases hat : (g.ren f).at_ k0 with
    | none => rfl
    | some b => obtain ⟨cs', hcs⟩ := hr.live _ _ hat; rw [hk1, hf] at hcs; cases hcs
  have hat : ∀ k b, ((g.ren f).set w.heap.size (.box k0)).at_ k = some b → (((g.ren f).set w.heap.size (.box k0)).setAt k0 w.heap.size).at_ k = some b := by
    intro k b hk
    have : k ≠ k0 := fun e => by subst e; rw [show ((g.ren f).set w.heap.size (.box k)).at_ k = (g.ren f).at_ k from rfl, hnone] at hk; cases hk
    simp only [Gh.setAt, this, if_false]
    exact hk
  have mv : ∀ s v c, VRel ((g.ren f).set w.heap.size (.box k0)) (w.alloc x) s v c → VRel (((g.ren f).set w.heap.size (.box k0)).setAt k0 w.heap.size) (w.alloc x) s v c :=
    fun s v c hv => h1.mono_slot (g' := ((g.ren f).set w.heap.size (.box k0)).setAt k0 w.heap.size) (w' := w.alloc x) (fun _ _ _ a b => ⟨a, b⟩) hat hv (fun _ _ _ _ ho => ⟨ho, rfl⟩)
  refine ⟨fun u v hv => ?_, fun k cs' hk => ?_, h1.fresh, h1.base, ?_, h1.defers, h1.size, fun k b hb => ?_, h1.nones⟩
  · obtain ⟨c, h2, h3⟩ := h1.env u v hv
    exact ⟨c, h2, mv _ _ _ h3⟩
  · rw [St.cells_put_box] at hk
    by_cases e' : k0 = k
    · subst e'
      simp only [if_true, Option.some.injEq] at hk
      subst hk
      exact hnew fun s v c hv => mv _ _ _ (hv.push hr _ _)
    · simp only [e', if_false] at hk
      exact (h1.box k cs' hk).mono (fun _ _ _ a b => ⟨a, b⟩) (fun b h1 h2 => ⟨hat _ _ h1, h2, rfl⟩) (fun n h => hat _ _ h) (fun i v c _ _ hv => mv _ _ _ hv)
  · have := h1.evol
    exact ⟨this.os, this.tape, this.output, this.size, this.free, this.other, this.arr, this.box, fun i b hb => by simp only [Gh.setAt]; rw [if_neg (fun e => hk0 i e.symm)]; exact this.outs i b hb⟩
  · rw [St.cells_put_box]
    by_cases e' : k0 = k.base
    · exact ⟨cs, by rw [if_pos e']⟩
    · simp only [e', if_false]
      refine hr.live k b ?_
      simp only [Gh.setAt, Gh.set] at hb
      rw [if_neg (fun e2 => e' (by rw [e2, hk1]))] at hb
      exact hb
/-- A box is made. -/
theorem Rep.newBox (h : Rep g0 w0 g w σ a N) {t : Nat} (hf : σ.cells (.loc t) = none) (cs : List V) (cur : Array Value) (e : TypeId) (hl : cur.size = cs.length) (hfl : ∀ (i : Nat) (v : V), cs[i]? = some v → v.cellP) (f : Slot → Slot) (hfn : ∀ r, (f r).root = .none → r.root = .none)
    (hs : ∀ u v, σ.tmp u = some v → okFor f (.tmp u) v) (hb : ∀ k cs o v, σ.cells k = some cs → cs[o]? = some v → okFor f (.cell k o) v) (hc : ∀ (i : Nat) (v : V) (c : Value), cs[i]? = some v → cur[i]? = some c → VRel (g.ren f) w (.cell (.loc t) i) v c) :
    Rep g0 w0 (((g.ren f).set w.heap.size (.box (.loc t))).setAt (.loc t) w.heap.size) (w.alloc (.cells cur e)) (σ.put (.box (.loc t) cs)) a N :=
  h.newKey (by simp) rfl hf cs (.cells cur e) f hfn hs hb fun mv => .ofCell rfl ⟨w.heap.size, cur, e, by simp [Gh.setAt], by simp [Gh.setAt, Gh.set], heap_push_new w _, hl, hfl, fun i v c hv hcc => mv _ _ _ (hc i v c hv hcc)⟩

/-! ### A cell of a box is written -/
theorem setCell_heap (w : World) (b q : Nat) (c : Value) (b' : Nat) : (w.setCell (pl b q) c).heap[b']? = if b = b' then (w.heap[b]?).map (fun | .cells cs e f => .cells (cs.setIfInBounds q c) e f | x => x) else w.heap[b']? := by
  simp only [World.setCell, Array.getElem?_modify]
  by_cases e : b = b'
  · subst e
    simp only [if_true]
    cases w.heap[b]? with
    | none => rfl
    | some x => cases x <;> rfl
  · simp only [e, if_false]
theorem VRel.setBox (h : Rep g0 w0 g w σ a N) {k : Key} {b q : Nat} (ho : g.own b = .box k) (c' : Value) {s : Slot} {v : V} {c : Value} (hv : VRel g w s v c) : VRel g (w.setCell (pl b q) c') s v c := by
  have hne : ∀ b', b' ≠ b → (w.setCell (pl b q) c').heap[b']? = w.heap[b']? := fun b' hb => by rw [setCell_heap, if_neg (fun e => hb e.symm)]
  refine h.mono_slot (fun b1 q1 c1 h1 h2 => ⟨h1, ?_⟩) (fun _ _ h => h) hv (fun r b1 l _ h1 => ⟨h1, hne b1 (fun e => by subst e; rw [ho] at h1; cases h1)⟩)
  rw [cell_of_heap (hne b1 (fun e => by subst e; simp only [Gh.stable, ho] at h1; exact h1.elim))]
  exact h2
theorem Rep.setCell (h : Rep g0 w0 g w σ a N) {k : Key} {off b : Nat} {cs : List V} {v : V} {c : Value} (hk : σ.cells k = some cs) (hat : g.at_ k = some b) (hoff : off < cs.length) (hfl : v.cellP) (hv : VRel g w (.cell k off) v c) (hkm : k.isMp = false) :
    Rep g0 w0 g (w.setCell (pl b off) c) (σ.put (.cell k off v)) a N := by
  obtain ⟨b', cur, e, h1, h2, h3, h4, h6, h5⟩ := (h.box k cs hk).cell hkm
  have : b' = b := Option.some.inj (h1.symm.trans hat)
  subst this
  have hne : ∀ b1, b1 ≠ b' → (w.setCell (pl b' off) c).heap[b1]? = w.heap[b1]? := fun b1 hb => by rw [setCell_heap, if_neg (fun e => hb e.symm)]
  have hself : (w.setCell (pl b' off) c).heap[b']? = some (.cells (cur.setIfInBounds off c) e (0, 0)) := by rw [setCell_heap, if_pos rfl, h3]; rfl
  have hsz : (w.setCell (pl b' off) c).heap.size = w.heap.size := by simp [World.setCell]
  refine ⟨fun t u hu => ?_, fun k' cs' hk' => ?_, fun b1 hb1 => h.fresh b1 (by rw [← hsz]; exact hb1), h.base, ?_, h.defers, h.size, fun k' b1 hb1 => ?_, h.nones⟩
  · rw [St.tmp_put_cell] at hu
    obtain ⟨c1, h7, h8⟩ := h.env t u hu
    exact ⟨c1, h7, h8.setBox h h2 c⟩
  · rw [St.cells_put_cell] at hk'
    by_cases ek : k = k'
    · subst ek
      simp only [if_true, hk, Option.map_some, Option.some.injEq] at hk'
      subst hk'
      refine .ofCell hkm ⟨b', _, e, h1, h2, hself, by simpa using h4, fun i u hu => ?_, fun i u c1 hu hc1 => ?_⟩
      · rw [List.getElem?_set] at hu
        by_cases ei : off = i
        · subst ei; simp [hoff] at hu; subst hu; exact hfl
        · simp only [ei, if_false] at hu; exact h6 i u hu
      · rw [List.getElem?_set] at hu
        by_cases ei : off = i
        · subst ei
          simp [hoff] at hu
          subst hu
          rw [Array.getElem?_setIfInBounds_self, if_pos (by omega)] at hc1
          cases hc1
          exact hv.setBox h h2 c
        · simp only [ei, if_false] at hu
          rw [Array.getElem?_setIfInBounds_ne ei] at hc1
          exact (h5 i u c1 hu hc1).setBox h h2 c
    · simp only [ek, if_false] at hk'
      refine (h.box k' cs' hk').mono (fun b1 q1 c1 s1 s2 => ⟨s1, ?_⟩) (fun b1 h7 h8 => ?_) (fun _ h => h) (fun i u c1 _ _ hu => hu.setBox h h2 c)
      · rw [cell_of_heap (hne b1 (fun e => by subst e; simp only [Gh.stable, h2] at s1; exact s1.elim))]
        exact s2
      · have : b1 ≠ b' := fun e => by subst e; rw [h2] at h8; cases h8; exact ek rfl
        exact ⟨h7, h8, hne b1 this⟩
  · refine h.evol.trans h.base.1 ⟨rfl, rfl, rfl, by rw [hsz]; exact Nat.le_refl _, fun b1 _ ho => ⟨hne b1 (fun e => by subst e; rw [h2] at ho; cases ho), ho⟩, fun b1 l ho => ⟨hne b1 (fun e => by subst e; rw [h2] at ho; cases ho), ho⟩, fun b1 s l ho => ⟨fun q1 c1 _ hq => ?_, .inr (.inr ⟨s, l, ho, Nat.le_refl _⟩)⟩, fun _ _ h => h, fun _ _ h => h⟩
    rw [cell_of_heap (hne b1 (fun e => by subst e; rw [h2] at ho; cases ho))]
    exact hq
  · rw [St.cells_put_cell]
    by_cases ek : k = k'.base
    · exact ⟨_, by rw [if_pos ek, hk]; rfl⟩
    · rw [if_neg ek]; exact h.live k' b1 hb1
end
end Go.Proofs.YtacfehneeanlgaaDoor.Ev
namespace Go.Proofs.YtacfehneeanlgaaDoor.Ev
open Go
set_option linter.unusedVariables false
set_option linter.unusedSimpArgs false
section
variable {P : Program} {I : Info} {g0 g : Gh} {w0 w : World} {σ : St} {a : Act} {N : Nat} {o : Oper} {ops : List Oper} {next : Act → World → Prop} {Q : Exit → Act → World → Prop} {ws : List W} {b : Bool}

theorem oneC_cells {c : Value} (h : oneC c = true) : c.cells = #[c] ∧ c.oneCell' = true := by
  cases c <;> first | exact ⟨rfl, rfl⟩ | cases h
theorem row_oneC {s : Slot} {cs : List CT} {xs : List (List D)} {c : Value} (h : DRel g.stable w (.arr cs) (.arr xs) c) : oneC c = true := by
  rcases row_inv (s := s) h with ⟨_, p, e⟩ | ⟨b, q, cap, e, _, _⟩ <;> rw [e] <;> rfl
theorem flat_oneC {s : Slot} {v : V} {c : Value} (h : VRel g w s v c) (hk : cellOk v = true) : v.flat ∧ oneC c = true := by
  cases h with
  | val _ v => exact ⟨trivial, hk⟩
  | arr _ cs xs c h => exact ⟨trivial, row_oneC (s := s) h⟩
  | own _ cs xs c h _ => exact ⟨trivial, row_oneC (s := s) h⟩
  | _ => cases hk
theorem cellP_oneC {s : Slot} {v : V} {c : Value} (h : VRel g w s v c) (hk : cellOkP v = true) : v.cellP ∧ oneC c = true := by
  unfold cellOkP at hk
  rw [Bool.or_eq_true] at hk
  rcases hk with hk | hk
  · exact ⟨(flat_oneC h hk).1.p, (flat_oneC h hk).2⟩
  · cases v <;> first | cases hk | skip
    obtain ⟨b, _, e⟩ := ptr_inv h
    exact ⟨trivial, by rw [e]; rfl⟩
theorem cellOkP_cellP {v : V} (hk : cellOkP v = true) : v.cellP := by
  unfold cellOkP at hk
  cases v <;> first | trivial | (simp [cellOk, V.isPtr] at hk)
theorem force_rel {s : Slot} {ct : CT} {d : D} {c : Value} (h : DRel g.stable w ct d c) : VRel g w s (ct.force d) c := by
  cases ct with
  | int k => cases h; exact .val _ _
  | bool => cases h; exact .val _ _
  | str => cases h; exact .val _ _
  | fn => cases h; exact .val _ _
  | arr cs => exact .arr _ _ _ _ (h.toArr_congr rfl)
theorem force_flat (ct : CT) (d : D) : (ct.force d).flat := by cases ct <;> trivial
theorem loadV_run {k : Key} {f : List V → Step} {r : Bool × List W} : ∀ (n off : Nat) (acc : List V), (loadV k off f n acc).run σ = some r →
    ∃ us : List V, us.length = n ∧ (∀ i, i < n → ∃ v, σ.cell k (off + i) = some v ∧ us[i]? = some v.view) ∧ (f (acc.reverse ++ us)).run σ = some r
  | 0, off, acc, h => ⟨[], rfl, fun i hi => absurd hi (by omega), by simpa [loadV] using h⟩
  | n + 1, off, acc, h => by
    simp only [loadV, M.run] at h
    cases hv : σ.cell k off with
    | none => rw [hv] at h; cases h
    | some v =>
      rw [hv] at h
      obtain ⟨us, hl, hu, hr⟩ := loadV_run n (off + 1) (v.view :: acc) h
      refine ⟨v.view :: us, by simp [hl], fun i hi => ?_, by simpa using hr⟩
      cases i with
      | zero => exact ⟨v, hv, rfl⟩
      | succ i =>
        obtain ⟨u, h1, h2⟩ := hu i (by omega)
        exact ⟨u, by rw [← h1]; congr 1; omega, by simpa using h2⟩
theorem cell_box {k : Key} {off : Nat} {v : V} (h : Rep g0 w0 g w σ a N) (hv : σ.cell k off = some v) {b : Nat} (hat : g.at_ k = some b) (hkm : k.isMp = false) : ∃ c, w.cell? (pl b off) = some c ∧ VRel g w (.cell k off) v c ∧ v.cellP ∧ w.frozen? (pl b off) = false ∧ ∃ cs, σ.cells k = some cs ∧ off < cs.length := by
  unfold St.cell at hv
  cases hk : σ.cells k with
  | none => rw [hk] at hv; cases hv
  | some cs =>
    rw [hk] at hv
    obtain ⟨b', cur, e, h1, h2, h3, h4, h6, h5⟩ := (h.box k cs hk).cell hkm
    have : b' = b := Option.some.inj (h1.symm.trans hat)
    subst this
    have hv' : cs[off]? = some v := hv
    obtain ⟨hlt, _⟩ := List.getElem?_eq_some_iff.1 hv'
    have hc : cur[off]? = some cur[off] := Array.getElem?_eq_getElem (by omega)
    exact ⟨cur[off], by simp [World.cell?, h3, hc], h5 off v _ hv' hc, h6 off v hv', by simp [World.frozen?, h3], cs, rfl, hlt⟩
theorem loadAt_run {t : TypeId} {x : Operand} (ho : o.op = .load t x) {b q : Nat} (hx : a.eval x = .pointer (some (pl b q))) {c : Value} (hl : (loadVar t (pl b q)).run P w = .ok c w) : (execOp a.eval o).run P w = .ok (.value c) w := by
  refine sem_run (s := Instr.loadAt t (a.eval x)) (by simp only [execOp, ho]; rfl) ?_
  rw [hx]
  simpa [Instr.loadAt, Instr.sureAddr] using hl
theorem loadVar_one {t : TypeId} (hok : InfoOk P I) (ht : isAggT I t = some false) {b q : Nat} {c : Value} (hc : w.cell? (pl b q) = some c) : (loadVar t (pl b q)).run P w = .ok c w := by
  simp [loadVar, (isAgg_run hok ht w).1, load, Sem.run, hc]
theorem loadVar_many {t : TypeId} (hok : InfoOk P I) (ht : isAggT I t = some true) {n : Nat} (hn : I.size t = some n) {b q : Nat} {cs : List Value} (hl : cs.length = n) (hc : ∀ j, j < n → w.cell? (pl b (q + j)) = cs[j]?) : (loadVar t (pl b q)).run P w = .ok (.agg cs.toArray) w := by
  obtain ⟨_, d, hd, hrow⟩ := isAgg_run hok ht w
  obtain ⟨i, hi, hin⟩ := hok.size hn
  refine run_loadVar_mid w b q t cs d (fun j v hv => ?_) hd hrow (by rw [hi]; simp [hin, hl])
  obtain ⟨hlt, _⟩ := List.getElem?_eq_some_iff.1 hv
  exact (hc j (by omega)).trans hv
/-- A row's cells. -/
theorem row_cells {cs : List CT} {xs : List (List D)} {b q cap i : Nat} (h : DRel g.stable w (.arr cs) (.arr xs) (.slice (some (pl b q)) xs.length cap)) (hi : i < xs.length) :
    ∃ f : Nat → Value, ∀ j, j < cs.length → w.cell? (pl b (q + i * cs.length + j)) = some (f j) ∧ ∀ c, cs[j]? = some c → DRel g.stable w c ((xs.getD i []).getD j default) (f j) := by
  generalize hd : D.arr xs = d at h
  generalize hv : Value.slice (some (pl b q)) xs.length cap = v at h
  cases h with
  | nil _ _ p h3 =>
    subst hd
    have hx : xs = [] := h3
    subst hx
    simp at hi
  | arr _ _ b' q0 cap' f hn hm hc hd' =>
    simp only [Value.slice.injEq, Option.some.injEq, Addr.mk.injEq, and_true] at hv
    obtain ⟨⟨rfl, rfl⟩, -, rfl⟩ := hv
    subst hd
    exact ⟨f i, fun j hj => ⟨(hc i j hi hj).2, fun c hcj => hd' i j c hi hcj⟩⟩
theorem rowV_get (e : List D) : ∀ (cs : List CT) (j i : Nat) (c : CT), cs[i]? = some c → (rowV e j cs)[i]? = some (c.force (e.getD (j + i) default))
  | c0 :: cs, j, 0, c, h => by simp at h; subst h; simp [rowV]
  | c0 :: cs, j, i + 1, c, h => by
    have := rowV_get e cs (j + 1) i c (by simpa using h)
    simp only [rowV, List.getElem?_cons_succ]
    rw [this]
    congr 3
    omega
theorem rowV_length (e : List D) : ∀ (cs : List CT) (j : Nat), (rowV e j cs).length = cs.length
  | [], _ => rfl
  | c :: cs, j => by simp [rowV, rowV_length e cs]

/-- The cells of a slice that is written in place. -/
theorem ms_box (h : Rep g0 w0 g w σ a N) {t : Nat} {c : List CT} {xs : List (List D)} {u : Value} {b n : Nat} (hc : σ.cells (.mp t) = some [.arr c xs, .val u]) (hb : g.at_ (.mp t) = some b) (hn : g.at_ (.mn t) = some n) :
    ∃ cur, ∃ e : TypeId × Nat × Nat, w.heap[b]? = some (.cells cur e.1 e.2) ∧ g.own b = .box (.mp t) ∧ (xs.length = mnN n ∧ mnC n * c.length = cur.size) ∧ xs.length * c.length ≤ cur.size ∧ Unfz cur.size e.2 ∧
      ∀ (i j : Nat) (ct : CT), i < xs.length → c[j]? = some ct → ∃ v, cur[i * c.length + j]? = some v ∧ DRel g.stable w ct ((xs.getD i []).getD j default) v := by
  obtain ⟨b', x, q1, q2, q3, ⟨_, _, _, _, _, e1, _⟩ | ⟨_, _, e1, _⟩ | ⟨cts, rows, cur, e, u', e1, e2, e3, e4, e5, e6⟩⟩ := (h.box _ _ hc).map rfl
  · simp at e1
  · simp at e1
  · simp only [List.cons.injEq, V.arr.injEq, V.val.injEq, and_true] at e1
    obtain ⟨⟨rfl, rfl⟩, rfl⟩ := e1
    have : b' = b := Option.some.inj (q1.symm.trans hb)
    subst this
    obtain ⟨m, e3, e3b, e3c⟩ := e3
    have hn' : some n = some m := hn.symm.trans e3
    cases hn'
    exact ⟨cur, e, by rw [q3, e2], q2, ⟨e3b.symm, e3c⟩, e4, e5, e6⟩
theorem row_lt {n sz i j m : Nat} (hi : i < n) (hj : j < sz) (hm : n * sz ≤ m) : i * sz + j < m := by
  have := Nat.mul_le_mul_right sz (show i + 1 ≤ n from hi)
  rw [Nat.add_mul] at this
  omega
theorem op_load {t : TypeId} {x : Operand} (ho : o.op = .load t x) (hok : InfoOk P I) (h : Rep g0 w0 g w σ a N) (hd : ∀ t, o.dst = some t → t < N) (hr : (opM I ops o).run σ = some (true, ws)) (hn : ∀ g' a' w', Rep g0 w0 g' w' (σ.puts ws) a' N → next a' w') : o.wp P a w next Q := by
  unfold opM at hr
  rw [ho] at hr
  obtain ⟨u, hr1, hu, -, -⟩ := opd_sound h hr
  clear hr
  cases hag : isAggT I t with
  | none => rw [hag] at hr1; cases hr1
  | some ag =>
  cases hsz : I.size t with
  | none => rw [hag, hsz] at hr1; cases ag <;> cases hr1
  | some n =>
  rw [hag, hsz] at hr1
  cases u with
  | ptr k off =>
    obtain ⟨b, hb, e⟩ := ptr_inv hu
    cases ag with
    | true =>
      obtain ⟨us, hl, hus, hr⟩ := loadV_run n off [] hr1
      clear hr1
      have hall : ∀ i, i < n → ∃ v c, σ.cell k (off + i) = some v ∧ us[i]? = some v.view ∧ w.cell? (pl b (off + i)) = some c ∧ VRel g w (.cell k (off + i)) v c ∧ v.cellP := by
        intro i hi
        obtain ⟨v, h1, h2⟩ := hus i hi
        obtain ⟨c, h3, h4, h5, _⟩ := cell_box h h1 hb (ptr_key hu)
        exact ⟨v, c, h1, h2, h3, h4, h5⟩
      let cs : List Value := (List.range n).map fun i => (w.cell? (pl b (off + i))).getD undef
      have hcl : cs.length = n := by simp [cs]
      have hcs : ∀ j, j < n → cs[j]? = w.cell? (pl b (off + j)) := by
        intro j hj
        obtain ⟨v, c, _, _, h3, _⟩ := hall j hj
        simp [cs, hj, h3]
      refine op_plain (v := .agg us) h hd (loadAt_run ho e (loadVar_many hok hag hsz hcl (fun j hj => (hcs j hj).symm))) (fun s => ?_) hr hn
      refine .agg _ us _ (by simp [hcl, hl]) (fun i v hv => ?_) (fun i v c hv hc => ?_)
      · obtain ⟨hlt, _⟩ := List.getElem?_eq_some_iff.1 hv
        obtain ⟨v', c', h1, h2, h3, h4, h5⟩ := hall i (by omega)
        have : v = v'.view := Option.some.inj (hv.symm.trans h2)
        subst this
        cases v' <;> first | exact h5 | trivial
      · obtain ⟨hlt, _⟩ := List.getElem?_eq_some_iff.1 hv
        obtain ⟨v', c', h1, h2, h3, h4, h5⟩ := hall i (by omega)
        have : v = v'.view := Option.some.inj (hv.symm.trans h2)
        subst this
        have hc' : cs[i]? = some c := by simpa using hc
        rw [hcs i (by omega), h3] at hc'
        cases hc'
        exact h4.viewed (by rintro vs rfl; exact h5)
    | false =>
      cases n with
      | zero => cases hr1
      | succ n =>
      cases n with
      | succ => cases hr1
      | zero =>
      simp only [M.run] at hr1
      cases hv : σ.cell k off with
      | none => rw [hv] at hr1; cases hr1
      | some v =>
      rw [hv] at hr1
      obtain ⟨c, h3, h4, h5, _, cs, hk, hlt⟩ := cell_box h hv hb (ptr_key hu)
      have hrun := loadAt_run ho e (loadVar_one hok hag h3)
      cases v with
      | own ct xs =>
        simp only at hr1
        split at hr1
        · simp only [M.run, Option.some.injEq, Prod.mk.injEq, true_and] at hr1
          subst hr1
          have hcur : cs[off]? = some (.own ct xs) := by simpa [St.cell, hk] using hv
          refine up_value hrun ?_
          -- the cell keeps a view, its room goes
          have h1 : Rep g0 w0 g w (σ.put (.cell k off (.arr ct xs))) a N := by
            refine ⟨fun t u hu => h.env t u (by simpa using hu), fun k' cs' hk' => ?_, h.fresh, h.base, h.evol, h.defers, h.size, fun k' b1 hb1 => ?_, h.nones⟩
            · rw [St.cells_put_cell] at hk'
              by_cases ek : k = k'
              · subst ek
                simp only [if_true, hk, Option.map_some, Option.some.injEq] at hk'
                subst hk'
                obtain ⟨b', cur, e', g1, g2, g3, g4, g6, g5⟩ := (h.box k cs hk).cell (ptr_key hu)
                refine .ofCell (ptr_key hu) ⟨b', cur, e', g1, g2, g3, by simpa using g4, fun i u hu => ?_, fun i u c1 hu hc1 => ?_⟩
                · rw [List.getElem?_set] at hu
                  by_cases ei : off = i
                  · subst ei; simp [hlt] at hu; subst hu; trivial
                  · simp only [ei, if_false] at hu; exact g6 i u hu
                · rw [List.getElem?_set] at hu
                  by_cases ei : off = i
                  · subst ei; simp [hlt] at hu; subst hu; exact (g5 off _ c1 hcur hc1).view
                  · simp only [ei, if_false] at hu; exact g5 i u c1 hu hc1
              · simp only [ek, if_false] at hk'
                exact h.box k' cs' hk'
            · rw [St.cells_put_cell]
              by_cases ek : k = k'.base
              · exact ⟨_, by rw [if_pos ek, hk]; rfl⟩
              · rw [if_neg ek]; exact h.live k' b1 hb1
          cases hdd : o.dst with
          | none =>
            have := hn g (a.put o.dst c) w (by rw [hdd]; exact h1)
            rwa [hdd] at this
          | some d =>
            have h2 := (h1.giveCell (k := k) (o := off) (s' := .tmp d) (by simp [Slot.root]) (fun cs' u hcs' hu => by
              rw [St.cells_put_cell, if_pos rfl, hk] at hcs'
              simp only [Option.map_some, Option.some.injEq] at hcs'
              subst hcs'
              rw [List.getElem?_set] at hu
              simp [hlt] at hu
              subst hu
              trivial)).putTmp (hd d hdd) (h4.own_ren _ (toSlot_self _ _))
            have := hn _ (a.put o.dst c) w (by rw [hdd]; exact h2)
            rwa [hdd] at this
        · exact op_plain (v := .arr ct xs) h hd hrun (fun _ => h4.view) hr1 hn
      | val v => exact op_plain (v := .val v) h hd hrun (fun _ => h4.slot trivial) hr1 hn
      | arr ct xs => exact op_plain (v := .arr ct xs) h hd hrun (fun _ => h4.slot trivial) hr1 hn
      | ptr k' off' => exact op_plain (v := .ptr k' off') h hd hrun (fun _ => h4.slot trivial) hr1 hn
      | _ => exact h5.elim
  | eptr ct xs i j =>
    obtain ⟨b, q, cap, hi, hrel, e⟩ := eptr_inv hu
    obtain ⟨f, hf⟩ := row_cells hrel hi
    cases ag with
    | true =>
      simp only at hr1
      split at hr1
      · rename_i hle
        refine op_plain (v := .agg (rowV (xs.getD i []) j ((ct.drop j).take n))) h hd (loadAt_run ho e (loadVar_many (cs := (List.range n).map fun m => f (j + m)) hok hag hsz (by simp) (fun m hm => ?_))) (fun s => ?_) hr1 hn
        · have := (hf (j + m) (by omega)).1
          rw [show q + i * ct.length + j + m = q + i * ct.length + (j + m) by omega, this]
          simp [hm]
        · have hlen : (rowV (xs.getD i []) j ((ct.drop j).take n)).length = n := by rw [rowV_length]; simp; omega
          have hget : ∀ m v, (rowV (xs.getD i []) j ((ct.drop j).take n))[m]? = some v → m < n ∧ ∃ c, ct[j + m]? = some c ∧ v = c.force ((xs.getD i []).getD (j + m) default) := by
            intro m v hv
            obtain ⟨hlt, _⟩ := List.getElem?_eq_some_iff.1 hv
            rw [hlen] at hlt
            have hc : ((ct.drop j).take n)[m]? = some ct[j + m] := by
              rw [List.getElem?_take, if_pos hlt, List.getElem?_drop, List.getElem?_eq_getElem (by omega)]
            have := rowV_get (xs.getD i []) _ j m _ hc
            rw [hv] at this
            exact ⟨hlt, _, List.getElem?_eq_getElem (by omega), Option.some.inj this⟩
          refine .agg _ _ _ (by rw [hlen]; simp) (fun m v hv => ?_) (fun m v c hv hc => ?_)
          · obtain ⟨_, c, _, rfl⟩ := hget m v hv
            exact (force_flat _ _).p
          · obtain ⟨hlt, c', hc', rfl⟩ := hget m v hv
            simp [hlt] at hc
            subst hc
            exact force_rel ((hf (j + m) (by omega)).2 c' hc')
      · cases hr1
    | false =>
      cases n with
      | zero => cases hr1
      | succ n =>
      cases n with
      | succ => cases hr1
      | zero =>
      simp only at hr1
      cases hc : ct[j]? with
      | none => rw [hc] at hr1; cases hr1
      | some c =>
        rw [hc] at hr1
        obtain ⟨hlt, _⟩ := List.getElem?_eq_some_iff.1 hc
        exact op_plain h hd (loadAt_run ho e (loadVar_one hok hag (hf j hlt).1)) (fun _ => force_rel ((hf j hlt).2 c hc)) hr1 hn
  | sptr m rows i =>
    obtain ⟨b, hi, hs, e⟩ := sptr_inv hu
    cases ag with
    | false =>
      cases n with
      | zero => cases hr1
      | succ n => cases n <;> cases hr1
    | true =>
    simp only at hr1
    cases hri : rows[i]? with
    | none => rw [hri] at hr1; cases hr1
    | some r =>
    rw [hri] at hr1
    simp only at hr1
    split at hr1
    · rename_i hmn
      subst hmn
      obtain ⟨b', f, e', hm, hl, hcells⟩ := sarr_inv hs
      cases e'
      have hrl := hl i r hri
      have hj : ∀ j, j < n → ∃ v, r[j]? = some v := fun j hj => ⟨r[j]'(by omega), List.getElem?_eq_getElem _⟩
      refine op_plain (v := .agg r) h hd (loadAt_run ho e (loadVar_many (cs := (List.range n).map fun j => f i j) hok hag hsz (by simp) (fun j hjn => ?_))) (fun s => ?_) hr1 hn
      · obtain ⟨v, hv⟩ := hj j hjn
        rw [(hcells i j r v hri hv).2.2.1]
        simp [hjn]
      · refine .agg _ _ _ (by simp [hrl]) (fun j v hv => (hcells i j r v hri hv).1) (fun j v c hv hc => ?_)
        have hjn : j < n := by have := (List.getElem?_eq_some_iff.1 hv).1; omega
        simp [hjn] at hc
        subst hc
        exact (hcells i j r v hri hv).2.2.2
    · cases hr1
  | mptr tt ct i j =>
    obtain ⟨b, n', hb, hnn, hi, e⟩ := mptr_inv hu
    have hr2 : (M.cells (.mp tt) fun
      | [.arr c' xs, .val _] => if sameCTs ct c' then match ag, n with
        | true, n => if j + n ≤ ct.length then .ret (true, dstW o.dst (.agg (rowV (xs.getD i []) j ((ct.drop j).take n)))) else .fail
        | false, 1 => match ct[j]? with
          | some ct => .ret (true, dstW o.dst (ct.force ((xs.getD i []).getD j default)))
          | none => .fail
        | _, _ => .fail
        else .fail
      | _ => (.fail : Step)).run σ = some (true, ws) := by
      cases ag with
      | true => exact hr1
      | false =>
        match n with
        | 0 => exact hr1
        | 1 => exact hr1
        | n + 2 => exact hr1
    clear hr1
    simp only [M.run] at hr2
    cases hcs : σ.cells (.mp tt) with
    | none => rw [hcs] at hr2; cases hr2
    | some cs =>
    rw [hcs] at hr2
    simp only at hr2
    split at hr2
    case h_2 => cases hr2
    rename_i c' xs u'
    split at hr2
    case isFalse => cases hr2
    rename_i hsame
    obtain rfl := sameCTs_eq _ _ hsame
    obtain ⟨cur, e0, p1, p2, p3, p4, p5, p6⟩ := ms_box h hcs hb hnn
    have hi' : i < xs.length := by omega
    have hcell : ∀ q, q < ct.length → w.cell? (pl b (i * ct.length + q)) = some ((cur[i * ct.length + q]?).getD undef) ∧ ∀ c, ct[q]? = some c → DRel g.stable w c ((xs.getD i []).getD q default) ((cur[i * ct.length + q]?).getD undef) := by
      intro q hq
      have hlt := row_lt hi' hq p4
      refine ⟨by simp only [World.cell?, p1]; simp [Array.getElem?_eq_getElem hlt], fun c hc => ?_⟩
      obtain ⟨v, z1, z2⟩ := p6 i q c hi' hc
      rw [z1]; exact z2
    cases ag with
    | true =>
      simp only at hr2
      split at hr2
      case isFalse => cases hr2
      rename_i hle
      let f : Nat → Value := fun q => (cur[i * ct.length + q]?).getD undef
      refine op_plain (v := .agg (rowV (xs.getD i []) j ((ct.drop j).take n))) h hd (loadAt_run ho e (loadVar_many (cs := (List.range n).map fun m => f (j + m)) hok hag hsz (by simp) (fun m hm => ?_))) (fun s => ?_) hr2 hn
      · have := (hcell (j + m) (by omega)).1
        rw [show i * ct.length + j + m = i * ct.length + (j + m) by omega, this]
        simp [hm, f]
      · have hlen : (rowV (xs.getD i []) j ((ct.drop j).take n)).length = n := by rw [rowV_length]; simp; omega
        have hget : ∀ m v, (rowV (xs.getD i []) j ((ct.drop j).take n))[m]? = some v → m < n ∧ ∃ c, ct[j + m]? = some c ∧ v = c.force ((xs.getD i []).getD (j + m) default) := by
          intro m v hv
          obtain ⟨hlt, _⟩ := List.getElem?_eq_some_iff.1 hv
          rw [hlen] at hlt
          have hc : ((ct.drop j).take n)[m]? = some ct[j + m] := by
            rw [List.getElem?_take, if_pos hlt, List.getElem?_drop, List.getElem?_eq_getElem (by omega)]
          have := rowV_get (xs.getD i []) _ j m _ hc
          rw [hv] at this
          exact ⟨hlt, _, List.getElem?_eq_getElem (by omega), Option.some.inj this⟩
        refine .agg _ _ _ (by rw [hlen]; simp) (fun m v hv => ?_) (fun m v c hv hc => ?_)
        · obtain ⟨_, c, _, rfl⟩ := hget m v hv
          exact (force_flat _ _).p
        · obtain ⟨hlt, c', hc', rfl⟩ := hget m v hv
          simp [hlt, f] at hc
          subst hc
          exact force_rel ((hcell (j + m) (by omega)).2 c' hc')
    | false =>
      match n, hr2 with
      | 0, hr2 => cases hr2
      | _ + 2, hr2 => cases hr2
      | 1, hr2 =>
      simp only at hr2
      split at hr2
      · rename_i c hc
        obtain ⟨hlt, _⟩ := List.getElem?_eq_some_iff.1 hc
        exact op_plain h hd (loadAt_run ho e (loadVar_one hok hag (hcell j hlt).1)) (fun _ => force_rel ((hcell j hlt).2 c hc)) hr2 hn
      · cases hr2
  | _ => split at hr1 <;> first | (simp_all; done) | cases hr1
end
end Go.Proofs.YtacfehneeanlgaaDoor.Ev
