/- Regions that draw their order. -/
import Derived.Test.YtkcopbnaleiocaaOpH
namespace Go.Proofs.Ytkcopbnaleiocaa.Ev
open Go
set_option linter.unusedVariables false
set_option linter.unusedSimpArgs false
section
variable {P : Program} {I : Info} {g0 g : Gh} {w0 w : World} {σ τ : St} {a : Act} {N : Nat} {o : Oper} {next : Act → World → Prop} {Q : Exit → Act → World → Prop} {ws : List W} {rs : List Loc} {i : Nat}

def seqW (D : Nat → Bool) (tr : List Ent) : List W := tr.flatMap fun e => if D e.1 then e.2.2 else []
theorem seqW_cons (D : Nat → Bool) (e : Ent) (tr : List Ent) : seqW D (e :: tr) = (if D e.1 then e.2.2 else []) ++ seqW D tr := by simp [seqW]
theorem seqW_append (D : Nat → Bool) (A B : List Ent) : seqW D (A ++ B) = seqW D A ++ seqW D B := by simp [seqW]
theorem seqW_congr {D E : Nat → Bool} : ∀ {tr : List Ent}, (∀ e ∈ tr, D e.1 = E e.1) → seqW D tr = seqW E tr
  | [], _ => rfl
  | e :: tr, h => by rw [seqW_cons, seqW_cons, h e (.head _), seqW_congr fun x hx => h x (.tail _ hx)]
theorem seqW_all {D : Nat → Bool} : ∀ {tr : List Ent}, (∀ e ∈ tr, D e.1 = true) → seqW D tr = allW tr
  | [], _ => rfl
  | e :: tr, h => by
    rw [seqW_cons, h e (.head _), seqW_all fun x hx => h x (.tail _ hx)]
    simp [allW]
theorem seqW_none {D : Nat → Bool} : ∀ {tr : List Ent}, (∀ e ∈ tr, D e.1 = false) → seqW D tr = []
  | [], _ => rfl
  | e :: tr, h => by
    rw [seqW_cons, h e (.head _), seqW_none fun x hx => h x (.tail _ hx)]
    simp
theorem mem_seqW {D : Nat → Bool} {tr : List Ent} {x : W} (h : x ∈ seqW D tr) : ∃ e ∈ tr, D e.1 = true ∧ x ∈ e.2.2 := by
  simp only [seqW, List.mem_flatMap] at h
  obtain ⟨e, he, hx⟩ := h
  refine ⟨e, he, ?_⟩
  split at hx
  · rename_i hd; exact ⟨hd, hx⟩
  · cases hx

/-- All edges that bind lead into a set. -/
def Edges (ops : List Oper) (D : Nat → Bool) (j : Nat) : Prop := ∀ (o : Oper), ops[j]? = some o → ∀ e ∈ o.after, Region.binds .any e = true → D e.on = true
def Closed (ops : List Oper) (D : Nat → Bool) : Prop := ∀ j, D j = true → Edges ops D j
theorem ahead_in {ops : List Oper} {D : Nat → Bool} (hc : Closed ops D) : ∀ (m j : Nat), Edges ops D j → ∀ i ∈ aheadOf ops m j, D i = true
  | 0, _, _, i, h => by simp [aheadOf] at h
  | m + 1, j, hj, i, h => by
    simp only [aheadOf] at h
    split at h
    · rename_i o ho
      simp only [List.mem_flatMap, List.mem_filter, List.mem_cons] at h
      obtain ⟨e, ⟨he, hb⟩, h⟩ := h
      have hD := hj o ho e (by simpa using he) hb
      rcases h with rfl | h
      · exact hD
      · exact ahead_in hc m e.on (hc _ hD) i h
    · cases h
def clash (x y : Ent) : Prop := meetAny (x.2.2.map W.loc) y.2.1 = true ∨ meetAny (x.2.2.map W.loc) (y.2.2.map W.loc) = true ∨ meetAny (y.2.2.map W.loc) x.2.1 = true
def Apart (ops : List Oper) (tr : List Ent) : Prop := ∀ x ∈ tr, ∀ y ∈ tr, x.1 < y.1 → clash x y → x.1 ∈ aheadOf ops ops.length y.1

theorem meet_mem {xs ys : List Loc} {x y : Loc} (h : ¬ meetAny xs ys = true) (hx : x ∈ xs) (hy : y ∈ ys) : x.meets y = false := by
  cases e : x.meets y with
  | false => rfl
  | true =>
    refine absurd ?_ h
    simp only [meetAny, List.any_eq_true]
    exact ⟨x, hx, y, hy, e⟩
theorem agree_off {D : Nat → Bool} {bad : Loc → Prop} : ∀ (A : List Ent) (σ τ : St), AgreeOff bad σ τ → (∀ e ∈ A, D e.1 = false → ∀ x ∈ e.2.2, ∀ l, x.loc.meets l = true → bad l) → AgreeOff bad (σ.puts (allW A)) (τ.puts (seqW D A))
  | [], σ, τ, h, _ => h
  | e :: A, σ, τ, h, hb => by
    rw [seqW_cons, St.puts_append, show allW (e :: A) = e.2.2 ++ allW A by simp [allW], St.puts_append]
    refine agree_off A _ _ ?_ fun e' he => hb e' (.tail _ he)
    cases hD : D e.1 with
    | true => simp only [if_true]; exact h.puts _
    | false =>
      simp only [Bool.false_eq_true, if_false, St.puts_nil]
      intro l hl
      rw [puts_miss fun x hx => ?_]
      · exact h l hl
      · cases hm : x.loc.meets l with
        | false => rfl
        | true => exact absurd (hb e (.head _) hD x hx l hm) hl

theorem ready_op {ops : List Oper} {D : Nat → Bool} {A B : List Ent} {e : Ent} (hA : ∀ x ∈ A, x.1 < e.1) (hB : ∀ x ∈ B, e.1 < x.1) (hap : Apart ops (A ++ e :: B)) (hc : Closed ops D) (he : Edges ops D e.1) (hd : D e.1 = false)
    (ht : Trace P I ops N σ (A ++ e :: B)) : OpRun P I ops N (σ.puts (seqW D (A ++ e :: B))) e.1 e.2.1 e.2.2 := by
  have hop := ht.at
  refine hop.congr fun l hl => ?_
  rw [seqW_append, seqW_cons, hd, if_neg (by simp), List.nil_append, St.puts_append]
  have h2 : ((σ.puts (seqW D A)).puts (seqW D B)).at_ l = (σ.puts (seqW D A)).at_ l := by
    refine puts_miss fun x hx => ?_
    obtain ⟨y, hy, hDy, hxy⟩ := mem_seqW hx
    have hne : ¬ clash e y := fun hcl => by
      have := ahead_in hc _ _ (hc _ hDy) _ (hap e (by simp) y (by simp [hy]) (hB y hy) hcl)
      rw [hd] at this; cases this
    exact meet_mem (fun h => hne (.inr (.inr h))) (List.mem_map_of_mem hxy) hl
  rw [h2]
  refine agree_off (bad := fun l => ∃ y ∈ A, D y.1 = false ∧ ∃ x ∈ y.2.2, x.loc.meets l = true) A σ σ (fun _ _ => rfl) (fun y hy hDy x hx l hm => ⟨y, hy, hDy, x, hx, hm⟩) l ?_
  rintro ⟨y, hy, hDy, x, hx, hm⟩
  have hne : ¬ clash y e := fun hcl => by
    have := ahead_in hc _ _ he _ (hap y (by simp [hy]) e (by simp) (hA y hy) hcl)
    rw [hDy] at this; cases this
  have := meet_mem (fun h => hne (.inl h)) (List.mem_map_of_mem hx) hl
  rw [hm] at this; cases this
theorem ready_put {ops : List Oper} {D E : Nat → Bool} {A B : List Ent} {e : Ent} (hA : ∀ x ∈ A, x.1 < e.1) (hB : ∀ x ∈ B, e.1 < x.1) (hap : Apart ops (A ++ e :: B)) (hc : Closed ops D) (hd : D e.1 = false)
    (hE : ∀ j, j ≠ e.1 → E j = D j) (hEe : E e.1 = true) : Eqv ((σ.puts (seqW D (A ++ e :: B))).puts e.2.2) (σ.puts (seqW E (A ++ e :: B))) := by
  rw [seqW_append, seqW_cons, hd, if_neg (by simp), List.nil_append, St.puts_append]
  rw [seqW_append E, seqW_cons E, hEe, if_pos rfl, St.puts_append, St.puts_append, seqW_congr (D := E) (E := D) (tr := A) fun x hx => hE _ (by have := hA x hx; omega), seqW_congr (D := E) (E := D) (tr := B) fun x hx => hE _ (by have := hB x hx; omega)]
  refine puts_comm fun x hx y hy => ?_
  obtain ⟨z, hz, hDz, hxz⟩ := mem_seqW hx
  have hne : ¬ clash e z := fun hcl => by
    have := ahead_in hc _ _ (hc _ hDz) _ (hap e (by simp) z (by simp [hz]) (hB z hz) hcl)
    rw [hd] at this; cases this
  have := meet_mem (fun h => hne (.inr (.inl h))) (List.mem_map_of_mem hy) (List.mem_map_of_mem hxz)
  cases h1 : y.loc with
  | tmp t =>
    rw [h1] at this
    cases h2 : x.loc with
    | tmp u => rw [h2] at this; simp only [Loc.meets, beq_eq_false_iff_ne, ne_eq] at this ⊢; exact fun h => this h.symm
    | part u j => rw [h2] at this; simp only [Loc.meets, beq_eq_false_iff_ne, ne_eq] at this ⊢; exact fun h => this h.symm
    | cell k o => cases o <;> rfl
  | part t i =>
    rw [h1] at this
    cases h2 : x.loc with
    | tmp u => rw [h2] at this; simp only [Loc.meets, beq_eq_false_iff_ne, ne_eq] at this ⊢; exact fun h => this h.symm
    | part u j => rw [h2] at this; simp only [Loc.meets, Bool.and_eq_false_imp, beq_iff_eq, beq_eq_false_iff_ne, ne_eq] at this ⊢; exact fun h h' => this h.symm h'.symm
    | cell k o => cases o <;> rfl
  | cell k o =>
    rw [h1] at this
    cases h2 : x.loc with
    | tmp u => cases o <;> rfl
    | part u j => cases o <;> rfl
    | cell k' o' =>
      rw [h2] at this
      cases o <;> cases o' <;> simp only [Loc.meets, decide_eq_false_iff_not, Bool.and_eq_false_imp, decide_eq_true_eq, beq_eq_false_iff_ne, ne_eq] at this ⊢ <;>
        first | exact fun h => this h.symm | exact fun h h' => this h.symm h'.symm

/-! ### The fuel -/
def unl (l : Array Bool) : Nat → Nat
  | 0 => 0
  | n + 1 => unl l n + if l.getD n true then 0 else 1
theorem getD_set_self {l : Array Bool} {i : Nat} : (l.setIfInBounds i true).getD i true = true := by
  by_cases h : i < l.size <;> simp [h]
theorem unl_set_le {l : Array Bool} {i : Nat} : ∀ n, unl (l.setIfInBounds i true) n ≤ unl l n
  | 0 => Nat.le_refl _
  | n + 1 => by
    have := unl_set_le (l := l) (i := i) n
    simp only [unl]
    by_cases h : i = n
    · subst h; rw [getD_set_self]; split <;> simp_all <;> omega
    · rw [getD_set_ne true h]; omega
theorem unl_set {l : Array Bool} {i : Nat} (hi : l.getD i true = false) : ∀ n, i < n → unl (l.setIfInBounds i true) n + 1 ≤ unl l n
  | 0, h => by omega
  | n + 1, h => by
    simp only [unl]
    by_cases e : i = n
    · subst e
      have := unl_set_le (l := l) (i := i) i
      rw [getD_set_self, hi]
      simp
      exact this
    · have := unl_set hi n (by omega)
      rw [getD_set_ne true e]; omega
theorem unl_zero {l : Array Bool} : ∀ {n j : Nat}, unl l n = 0 → j < n → l.getD j true = true
  | 0, _, _, h => by omega
  | n + 1, j, h, hj => by
    simp only [unl] at h
    by_cases e : j = n
    · subst e
      cases hh : l.getD j true with
      | true => rfl
      | false => rw [hh] at h; simp at h
    · exact unl_zero (n := n) (by omega) (by omega)
theorem unl_le {l : Array Bool} : ∀ n, unl l n ≤ n
  | 0 => Nat.le_refl _
  | n + 1 => by have := unl_le (l := l) n; simp only [unl]; split <;> omega

theorem getD_lt {l : Array Bool} {j : Nat} (h : j < l.size) : l.getD j true = l.getD j false := by
  simp [h]
theorem split_at {tr : List Ent} {n : Nat} (hm : tr.map (·.1) = List.range n) {i : Nat} (hi : i < n) : ∃ A e B, tr = A ++ e :: B ∧ e.1 = i ∧ (∀ x ∈ A, x.1 < e.1) ∧ ∀ x ∈ B, e.1 < x.1 := by
  have hl : tr.length = n := by have := congrArg List.length hm; simpa using this
  have hget : ∀ j (h : j < tr.length), (tr[j]).1 = j := by
    intro j h
    have h1 : (tr.map (·.1))[j]? = (List.range n)[j]? := by rw [hm]
    simp [List.getElem?_eq_getElem h, List.getElem?_range, show j < n by omega] at h1
    exact h1
  refine ⟨tr.take i, tr[i]'(by omega), tr.drop (i + 1), ?_, hget i (by omega), fun x hx => ?_, fun x hx => ?_⟩
  · simp
  · obtain ⟨j, hj, rfl⟩ := List.getElem_of_mem hx
    simp only [List.getElem_take]
    rw [hget, hget]
    simp at hj
    omega
  · obtain ⟨j, hj, rfl⟩ := List.getElem_of_mem hx
    simp only [List.getElem_drop]
    rw [hget, hget]
    omega
theorem wpAny_trace {ops : Array Oper} {tr : List Ent} (hok : InfoOk P I) (hm : tr.map (·.1) = List.range ops.size) (ht : Trace P I ops.toList N σ tr) (hap : Apart ops.toList tr) (hed : edgesOk ops.toList = true)
    (hn : ∀ g' a' w', Rep g0 w0 g' w' (σ.puts (allW tr)) a' N → Q .normal a' w') : ∀ (fuel : Nat) (listed : Array Bool) (g : Gh) (w : World) (a : Act), listed.size = ops.size → unl listed ops.size ≤ fuel → Closed ops.toList (fun j => listed.getD j false) →
      Rep g0 w0 g w (σ.puts (seqW (fun j => listed.getD j false) tr)) a N → wpAny P .any ops Q fuel listed a w := by
  have hidx : ∀ e ∈ tr, e.1 < ops.size := by
    intro e he
    have : e.1 ∈ tr.map (·.1) := List.mem_map_of_mem he
    rw [hm] at this
    simpa using this
  have hdone : ∀ (listed : Array Bool) (g : Gh) (w : World) (a : Act), listed.size = ops.size → Region.ready .any ops listed = [] → Rep g0 w0 g w (σ.puts (seqW (fun j => listed.getD j false) tr)) a N → Q .normal a w := by
    intro listed g w a hs hr h
    have hall : ∀ j, j < ops.size → listed.getD j false = true := by
      intro j
      induction j using Nat.strongRecOn with
      | ind j ih =>
        intro hj
        cases hl : listed.getD j false with
        | true => rfl
        | false =>
          exfalso
          have hmem : j ∈ Region.ready .any ops listed := by
            rw [mem_ready]
            refine ⟨by rw [getD_lt (by omega)]; exact hl, ops[j], Array.getElem?_eq_getElem hj, fun e he hb => ?_⟩
            have h1 : e.on < j := by
              simp only [edgesOk, List.all_eq_true, List.mem_range] at hed
              have := hed j (by simpa using hj)
              rw [show ops.toList[j]? = some ops[j] by simp [Array.getElem?_eq_getElem hj]] at this
              simp only [List.all_eq_true] at this
              have := this e (by simpa using he)
              rw [hb] at this
              simpa using this
            exact ih e.on h1 (by omega)
          rw [hr] at hmem
          cases hmem
    rw [seqW_all fun e he => hall _ (hidx e he)] at h
    exact hn _ _ _ h
  intro fuel
  induction fuel with
  | zero =>
    intro listed g w a hs hf hc h
    have hr : Region.ready .any ops listed = [] := by
      cases hr : Region.ready .any ops listed with
      | nil => rfl
      | cons j rest =>
        have hj : j ∈ Region.ready .any ops listed := by rw [hr]; exact .head _
        rw [mem_ready] at hj
        obtain ⟨h0, o, ho, _⟩ := hj
        have := unl_zero (Nat.le_zero.1 hf) (Array.getElem?_eq_some_iff.1 ho).1
        rw [h0] at this
        cases this
    exact ⟨hr, hdone listed g w a hs hr h⟩
  | succ fuel ih =>
    intro listed g w a hs hf hc h
    refine ⟨fun hr => hdone listed g w a hs hr h, fun i hi => ?_⟩
    rw [mem_ready] at hi
    obtain ⟨h0, o, ho, hall⟩ := hi
    have hlt := (Array.getElem?_eq_some_iff.1 ho).1
    obtain ⟨A, e, B, rfl, rfl, hA, hB⟩ := split_at hm hlt
    have hd : (fun j => listed.getD j false) e.1 = false := by simp only []; rw [← getD_lt (by omega)]; exact h0
    have hE : Edges ops.toList (fun j => listed.getD j false) e.1 := by
      intro o' ho'
      have : o' = o := by simpa [ho] using ho'.symm
      subst this
      exact hall
    have hop := ready_op hA hB hap hc hE hd ht
    refine hop.wpOp hok h fun g' a' w' h' => ?_
    refine ih _ g' w' a' (by simp [hs]) ?_ ?_ ?_
    · have := unl_set h0 ops.size hlt
      omega
    · intro j hj o' ho' e' he' hb'
      simp only at hj ⊢
      by_cases ej : j = e.1
      · subst ej
        exact getD_set_true (hE o' ho' e' he' hb')
      · rw [getD_set_ne false (Ne.symm ej)] at hj
        exact getD_set_true (hc j hj o' ho' e' he' hb')
    · refine h'.eqv (ready_put hA hB hap hc hd (fun j hj => ?_) ?_)
      · exact getD_set_ne false (Ne.symm hj)
      · simp [hs, hlt]
theorem region_sound {ops : Array Oper} {id : Nat} {draw : Bool} {tr : List Ent} (hok : InfoOk P I) (h : Rep g0 w0 g w σ a N) (hm : tr.map (·.1) = List.range ops.size) (ht : Trace P I ops.toList N σ tr) (hd : draw = true → Apart ops.toList tr ∧ edgesOk ops.toList = true)
    (hn : ∀ g' a' w', Rep g0 w0 g' w' (σ.puts (allW tr)) a' N → Q .normal a' w') : (Code.region id ops draw).wp P Q a w := by
  cases draw with
  | false =>
    refine wp_region ?_
    have := ht.wpOps (Q := Q) hok h hn
    rwa [hm] at this
  | true =>
    obtain ⟨h1, h2⟩ := hd rfl
    refine wp_region_any hok.mixed ?_
    refine wpAny_trace hok hm ht h1 h2 hn ops.size _ g _ a (by simp) (unl_le _) ?_ ?_
    · intro j hj
      by_cases hlt : j < ops.size <;> simp [hlt] at hj
    · rw [seqW_none fun e he => ?_]
      · exact h.sameHeap rfl rfl rfl rfl
      · have : e.1 ∈ tr.map (·.1) := List.mem_map_of_mem he
        rw [hm] at this
        simp at this
        simp [this]
end
end Go.Proofs.Ytkcopbnaleiocaa.Ev
