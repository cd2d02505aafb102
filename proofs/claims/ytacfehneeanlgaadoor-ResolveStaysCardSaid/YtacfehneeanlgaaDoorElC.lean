/- Numbers as bytes, sections: that the functions compute what XElD says. -/
import Derived.Test.YtacfehneeanlgaaDoorElP
import Derived.Laws.RangeAny
import Derived.Laws.RangeString
namespace Go.Proofs.YtacfehneeanlgaaDoor.Ev
open Go
set_option linter.unusedVariables false
set_option linter.unusedSimpArgs false
theorem el_info (l : List (Nat × ExtF)) : InfoOk Tryd.prog (infoL Tryd.prog l ent keepOf) := infoL_ok _ _ _ _ (by kernel_rfl)
theorem el_ext {l : List (Nat × ExtF)} (h : ExtAll Tryd.prog l) : ExtOk Tryd.prog (infoL Tryd.prog l ent keepOf) := infoL_ext h fun f e vs c h hc => by cases h

/-- A contract at no elements, by the two kinds of such values. -/
theorem contract_empty {P : Program} {f : Nat} {cs : List CT} {r : R} (h0 : Contract P f [.val (.slice none 0 0)] [] r) (h1 : ∀ (p : Addr) (c : Nat), Contract P f [.val (.slice (some p) 0 c)] [] r) : Contract P f [.arr cs []] [] r := by
  intro g w cargs hH
  obtain ⟨c, a1, a2⟩ := hH.args 0 _ rfl
  have re : ∀ v : Value, c = v → Handed g w [.val v] [] cargs := fun v hv => ⟨hH.size, fun i u hi => by
    match i with
    | 0 => simp only [List.getElem?_cons_zero, Option.some.injEq] at hi; subst hi; exact ⟨c, a1, by rw [hv]; exact .val _ _⟩
    | i + 1 => simp at hi, hH.boxes, hH.fresh, hH.loc, hH.mp, hH.mn, hH.out, hH.nones, hH.glob⟩
  have hd := arr_d a2
  generalize hx : D.arr [] = d at hd
  cases hd with
  | nil _ _ p hn =>
    cases p with
    | none => exact h0 g w cargs (re _ rfl)
    | some p => exact h1 p 0 g w cargs (re _ rfl)
  | arr _ _ b o cap f hn hm hcc hdd =>
    subst hx
    exact h1 _ cap g w cargs (re _ rfl)
theorem el_conO {l : List (Nat × ExtF)} (hl : ExtAll Tryd.prog l) {f : Nat} {fd : Func} {vs : List V} {outs o : List (List V)} {v : V} (h1 : Tryd.prog.funcs[f]? = some fd) (h2 : fd.body = some (sub (bodyOf fd) [])) (h3 : (fd.name == "runtime.NumGoroutine") = false) (h4 : extOf l f = none) (h5 : fd.params.size = vs.length) (h6 : fd.nfree = 0)
    (h : Runs (infoL Tryd.prog l ent keepOf) (f, fd, outs.length) [.code (sub (bodyOf fd) [])] (initSt vs outs) (fun r => Relax r.1 v ∧ r.2 = o)) : Contract Tryd.prog f vs outs (v, o) :=
  contract_of_runs (el_info l) (el_ext hl) h1 h2 h3 h4 ⟨h5, h6⟩ h
theorem el_con {l : List (Nat × ExtF)} (hl : ExtAll Tryd.prog l) {f : Nat} {fd : Func} {vs : List V} {v : V} (h1 : Tryd.prog.funcs[f]? = some fd) (h2 : fd.body = some (sub (bodyOf fd) [])) (h3 : (fd.name == "runtime.NumGoroutine") = false) (h4 : extOf l f = none) (h5 : fd.params.size = vs.length) (h6 : fd.nfree = 0)
    (h : Runs (infoL Tryd.prog l ent keepOf) (f, fd, 0) [.code (sub (bodyOf fd) [])] (initSt vs []) (Is v)) : Contract Tryd.prog f vs [] (v, []) := el_conO hl h1 h2 h3 h4 h5 h6 h

/-! ### le.sizes, Kind's function, HasPrefix, OnesCount64, fields -/
theorem con_knd1 : ∀ vs v, gKnd1 vs = some v → Contract Tryd.prog 56 vs [] (v, []) := by
  intro vs v h
  unfold gKnd1 at h
  split at h <;> cases h
  rename_i n
  refine el_con ExtAll.nil Tryd.func56 (by kernel_rfl) (by kernel_rfl) rfl (by kernel_rfl) (by kernel_rfl) (Runs.of (fun m => knd1p0 m n) ?_)
  unfold knd1t0
  refine ask (fun h => is_refl ?_) (fun h1 => is_refl ?_)
  · simp_all
  · simp only [decide_eq_false_iff_not] at h1
    rw [decF h1, Bool.false_or]
theorem con_has : ∀ vs v, gHas vs = some v → Contract Tryd.prog 91 vs [] (v, []) := by
  intro vs v h
  unfold gHas at h
  split at h <;> cases h
  rename_i s p
  refine el_con ExtAll.nil Tryd.func91 (by kernel_rfl) (by kernel_rfl) rfl (by kernel_rfl) (by kernel_rfl) (Runs.of (fun m => hasp0 m s p) ?_)
  unfold hast0
  refine ask (fun h => askT ?_ (is_refl ?_)) (fun h => is_refl ?_)
  · simp only [decide_eq_true_eq] at h
    exact okB (by omega) (by omega) (by omega)
  · simp only [decide_eq_true_eq] at h
    rw [hasP, decT (by omega), Bool.true_and, beq_toListBytes]
  · simp only [decide_eq_false_iff_not] at h
    rw [hasP, decF (by omega), Bool.false_and]
def retI : Tr → Int
  | .ret (.val (.int _ n), _) => n
  | _ => 0
theorem ones_all : ∀ n : Fin 65, 1 ≤ n.1 → retI (onet0 (n.1 : Int)) = ones (n.1 : Int) := by decide +kernel
theorem con_one : ∀ vs v, pOne vs = true → gOne vs = some v → Contract Tryd.prog 59 vs [] (v, []) := by
  intro vs v hp h
  unfold gOne at h
  split at h <;> cases h
  rename_i n
  simp only [pOne, Bool.and_eq_true, decide_eq_true_eq] at hp
  refine el_con ExtAll.nil Tryd.func59 (by kernel_rfl) (by kernel_rfl) rfl (by kernel_rfl) (by kernel_rfl) (Runs.of (fun m => onep0 m n) ?_)
  obtain ⟨k, rfl⟩ : ∃ k : Nat, n = (k : Int) := ⟨n.toNat, by omega⟩
  have := ones_all ⟨k, by omega⟩ (by show 1 ≤ k; omega)
  exact is_refl (v := .val (.int .i64 (retI (onet0 (k : Int))))) (by rw [this])
theorem la1_ok : ExtAll Tryd.prog la1 := .norm con_knd1 (.norm con_has (.normP con_one .nil))

/-! ### le.Put -/
theorem wrapU8 (n : Int) : IntKind.wrap .u8 n = n % 256 := by simp [IntKind.wrap, IntKind.bits, IntKind.signed]
theorem wrapU64 (n : Int) : IntKind.wrap .u64 n = n % 18446744073709551616 := by simp [IntKind.wrap, IntKind.bits, IntKind.signed]
theorem siz_cases {k : Int} (h : siz k = true) : k = 1 ∨ k = 2 ∨ k = 4 ∨ k = 8 := by simpa [siz, or_assoc] using h
theorem byte_of (n : Int) (j : Nat) (hj : j < 8) : IntKind.wrap .u8 (Int.fdiv (IntKind.wrap .u64 n) ((2 : Int) ^ min (Int.toNat (IntKind.wrap .i64 ((8 : Int) * (j : Int)))) 64)) = n / 256 ^ j % 256 := by
  have h8 : IntKind.wrap .i64 ((8 : Int) * (j : Int)) = ((8 * j : Nat) : Int) := by rw [wrap64 (by omega) (by omega)]; omega
  rw [h8, Int.toNat_natCast, wrapU8, wrapU64, Int.fdiv_eq_ediv_of_nonneg _ (Int.le_of_lt (Int.pow_pos (by decide)))]
  have : j = 0 ∨ j = 1 ∨ j = 2 ∨ j = 3 ∨ j = 4 ∨ j = 5 ∨ j = 6 ∨ j = 7 := by omega
  rw [Nat.min_eq_left (by omega)]
  rcases this with rfl | rfl | rfl | rfl | rfl | rfl | rfl | rfl <;> simp only [Nat.mul_zero, Nat.reduceMul, Int.pow_zero, Int.reducePow] <;> omega
def rowP (n : Int) (k i : Nat) : List (List D) := (List.range k).map fun j => if j < i then [D.int (n / 256 ^ j % 256)] else [D.int 0]
theorem rowP_zero (n : Int) (k : Nat) : rowP n k 0 = List.replicate k [D.int 0] := by
  apply List.ext_getElem
  · simp [rowP]
  · intro i h1 h2; simp [rowP]
theorem rowP_all (n : Int) (k : Nat) : rowP n k k = leB n k := by
  apply List.ext_getElem
  · simp [rowP, leB]
  · intro i h1 h2; simp [rowP, leB] at h1 ⊢; exact fun h => absurd h (by omega)
theorem rowP_set (n : Int) (k i : Nat) (hi : i < k) : (rowP n k i).set i [D.int (n / 256 ^ i % 256)] = rowP n k (i + 1) := by
  apply List.ext_getElem
  · simp [rowP]
  · intro j h1 h2
    rw [List.getElem_set]
    by_cases e : i = j
    · subst e; simp [rowP]
    · simp only [e, if_false, rowP, List.getElem_map, List.getElem_range]
      by_cases h : j < i
      · rw [if_pos h, if_pos (by omega)]
      · rw [if_neg h, if_neg (by omega)]
theorem rowP_length (n : Int) (k i : Nat) : (rowP n k i).length = k := by simp [rowP]
/-! ### le.Get -/
theorem leN_snoc (e : List D) : ∀ xs : List (List D), leN (xs ++ [e]) = leN xs + (e.getD 0 default).toInt * 256 ^ xs.length
  | [] => by simp [leN]
  | x :: xs => by
    simp only [List.cons_append, leN, leN_snoc e xs, List.length_cons, Int.pow_succ, Int.mul_add]
    have : 256 * ((e.getD 0 default).toInt * 256 ^ xs.length) = (e.getD 0 default).toInt * (256 ^ xs.length * 256) := by
      rw [Int.mul_left_comm, Int.mul_comm 256]
    omega
theorem bytesIn_get {xs : List (List D)} (h : bytesIn xs = true) {i : Nat} (hi : i < xs.length) : 0 ≤ cellI xs i 0 ∧ cellI xs i 0 < 256 := by
  have := List.all_eq_true.1 h _ (List.getElem_mem hi)
  simp only [Bool.and_eq_true, decide_eq_true_eq] at this
  rw [cellI, List.getD_eq_getElem?_getD (l := xs), List.getElem?_eq_getElem hi]
  exact this
theorem leN_take {xs : List (List D)} {i : Nat} (hi : i < xs.length) : leN (xs.take (i + 1)) = leN (xs.take i) + cellI xs i 0 * 256 ^ i := by
  rw [List.take_add_one, List.getElem?_eq_getElem hi]
  show leN (xs.take i ++ [xs[i]]) = _
  rw [leN_snoc, List.length_take, Nat.min_eq_left (by omega), cellI, List.getD_eq_getElem?_getD (l := xs), List.getElem?_eq_getElem hi]
  rfl
theorem leN_bound {xs : List (List D)} (h : bytesIn xs = true) : ∀ i, i ≤ xs.length → 0 ≤ leN (xs.take i) ∧ leN (xs.take i) < 256 ^ i
  | 0, _ => by simp [leN]
  | i + 1, hi => by
    obtain ⟨h1, h2⟩ := leN_bound h i (by omega)
    obtain ⟨h3, h4⟩ := bytesIn_get h (i := i) (by omega)
    rw [leN_take (by omega), Int.pow_succ]
    have h5 : (0 : Int) < 256 ^ i := Int.pow_pos (by decide)
    have h6 : 0 ≤ cellI xs i 0 * 256 ^ i := Int.mul_nonneg h3 (by omega)
    have h7 : cellI xs i 0 * 256 ^ i ≤ 255 * 256 ^ i := Int.mul_le_mul_of_nonneg_right (by omega) (by omega)
    omega
theorem or_step {a c : Int} {i : Nat} (hi : i < 8) (h0 : 0 ≤ a) (h1 : a < 256 ^ i) (h2 : 0 ≤ c) (h3 : c < 256) :
    IntKind.wrap IntKind.u64 (((BitVec.ofInt 64 a ||| BitVec.ofInt 64 (IntKind.wrap IntKind.u64 (IntKind.wrap IntKind.u64 c * (2 : Int) ^ min (Int.toNat (IntKind.wrap IntKind.i64 ((8 : Int) * (i : Int)))) 64))).toNat : Nat) : Int) = a + c * 256 ^ i := by
  have h8 : IntKind.wrap .i64 ((8 : Int) * (i : Int)) = ((8 * i : Nat) : Int) := by rw [wrap64 (by omega) (by omega)]; omega
  rw [h8, Int.toNat_natCast, Nat.min_eq_left (by omega)]
  obtain ⟨a, rfl⟩ := Int.eq_ofNat_of_zero_le h0
  obtain ⟨c, rfl⟩ := Int.eq_ofNat_of_zero_le h2
  have hp : (256 : Nat) ^ i = 2 ^ (8 * i) := by rw [show (256 : Nat) = 2 ^ 8 from rfl, ← Nat.pow_mul]
  have ha : a < 2 ^ (8 * i) := by
    have h1' : ((a : Nat) : Int) < ((256 ^ i : Nat) : Int) := by rw [Int.natCast_pow]; exact h1
    rw [← hp]; exact Int.ofNat_lt.1 h1'
  have hc : c < 256 := by omega
  have hle : (2 : Nat) ^ (8 * i) * 256 ≤ 2 ^ 64 := by
    rw [show (256 : Nat) = 2 ^ 8 by decide, ← Nat.pow_add]
    exact Nat.pow_le_pow_right (by decide) (by omega)
  have hcm : c * 2 ^ (8 * i) + 2 ^ (8 * i) ≤ 2 ^ 64 := by
    have : (c + 1) * 2 ^ (8 * i) ≤ 256 * 2 ^ (8 * i) := Nat.mul_le_mul_right _ (by omega)
    rw [Nat.add_mul] at this
    omega
  have e1 : IntKind.wrap IntKind.u64 (IntKind.wrap IntKind.u64 (c : Int) * (2 : Int) ^ (8 * i)) = ((c * 2 ^ (8 * i) : Nat) : Int) := by
    rw [wrapU64 (c : Int), Int.emod_eq_of_lt (by omega) (by omega), wrapU64]
    have : (c : Int) * (2 : Int) ^ (8 * i) = ((c * 2 ^ (8 * i) : Nat) : Int) := by rw [Int.natCast_mul, Int.natCast_pow]; rfl
    rw [this, Int.emod_eq_of_lt (by omega) (by omega)]
  have e2 : (256 : Int) ^ i = ((2 ^ (8 * i) : Nat) : Int) := by rw [← hp, Int.natCast_pow]; rfl
  rw [e1, e2]
  have e3 : ((BitVec.ofInt 64 (a : Int) ||| BitVec.ofInt 64 ((c * 2 ^ (8 * i) : Nat) : Int)).toNat) = a + c * 2 ^ (8 * i) := by
    rw [BitVec.toNat_or, BitVec.ofInt_natCast, BitVec.ofInt_natCast, BitVec.toNat_ofNat, BitVec.toNat_ofNat, Nat.mod_eq_of_lt (by omega), Nat.mod_eq_of_lt (by omega)]
    have := Nat.two_pow_add_eq_or_of_lt ha c
    rw [Nat.mul_comm] at this
    rw [Nat.or_comm, ← this]
    omega
  rw [e3, wrapU64, Int.emod_eq_of_lt (by omega) (by omega), Int.natCast_add, Int.natCast_mul]
/-! ### strings -/
theorem findIdx_from (l : List UInt8) (p : UInt8 → Bool) : ∀ (i : Nat), (∀ j, j < i → ∀ b, l[j]? = some b → p b = false) → (∀ b, l[i]? = some b → p b = true) → i < l.length → l.findIdx? p = some i := by
  intro i h1 h2 hi
  rw [List.findIdx?_eq_some_iff_getElem]
  exact ⟨hi, h2 _ (List.getElem?_eq_getElem hi), fun j hj => by rw [h1 j hj _ (List.getElem?_eq_getElem (by omega))]; simp⟩
theorem runs_ixf (s : ByteArray) : ∀ (d i : Nat), d + i = s.size → (∀ j, j < i → ∀ b, s.data.toList[j]? = some b → okCh b = true) → Tr.prop el1 (90, Tryd.f90, 0) (Is (.val (.int .i64 (ixG s)))) (ixft1 true s i) := by
  intro d
  induction d with
  | zero =>
    intro i hi hall
    unfold ixft1
    refine askF (decF (by omega)) (is_refl ?_)
    have : s.data.toList.findIdx? (fun b => !okCh b) = none := by
      rw [List.findIdx?_eq_none_iff]
      intro b hb
      obtain ⟨j, hj, rfl⟩ := List.getElem_of_mem hb
      have hsz : s.data.toList.length = s.size := by simp
      rw [hall j (by omega) _ (List.getElem?_eq_getElem hj)]; rfl
    rw [ixG, this]
  | succ d ih =>
    intro i hi hall
    have hlt : i < s.size := by omega
    have hsz : s.data.toList.length = s.size := by simp
    have hget : s.data.toList[i]? = some (s[i]'hlt) := by
      rw [List.getElem?_eq_getElem (by omega)]
      rfl
    have bad : okCh (s[i]'hlt) = false → (V.val (.int .i64 (i : Int))) = V.val (.int .i64 (ixG s)) := fun hb => by
      have := findIdx_from s.data.toList (fun b => !okCh b) i (fun j hj b h => by rw [hall j hj b h]; rfl) (fun b h => by rw [hget] at h; cases h; rw [hb]; rfl) (by omega)
      rw [ixG, this]
    have good : okCh (s[i]'hlt) = true → (∀ j, j < i + 1 → ∀ b, s.data.toList[j]? = some b → okCh b = true) := fun hb j hj b h => by
      by_cases e : j = i
      · subst e; rw [hget] at h; cases h; exact hb
      · exact hall j (by omega) b h
    unfold ixft1
    refine askT (decT hlt) ?_
    by_cases ha : (s[i]'hlt).toNat < 128
    · rw [decode_ascii s i hlt ha]
      refine ask (fun h => is_refl (bad ?_)) (fun h => ?_)
      · simp at h; simp [okCh]; omega
      · simp at h
        refine Runs.of (fun m => ixfp2 m true _ _ _ _) ?_
        exact ih (i + 1) (by omega) (good (by simp [okCh]; omega))
    · obtain ⟨h1, h2⟩ := decode_high s i hlt (by omega)
      refine ask (fun h => is_refl (bad ?_)) (fun h => ?_)
      · simp [okCh]; omega
      · simp at h; omega
theorem con_ixf : ∀ vs v, gIxf vs = some v → Contract Tryd.prog 90 vs [] (v, []) := by
  intro vs v h
  unfold gIxf at h
  split at h <;> cases h
  rename_i s
  refine el_con la1_ok Tryd.func90 (by kernel_rfl) (by kernel_rfl) rfl (by kernel_rfl) (by kernel_rfl) (Runs.of (fun m => ixfp0 m s true) ?_)
  unfold ixft0
  refine Runs.of (fun m => ixfp1 m true _ _) ?_
  exact runs_ixf s s.size 0 (by omega) (fun j hj => by omega)
theorem hasP_le {s p : ByteArray} (h : hasP s p = true) : p.size ≤ s.size := by
  simp only [hasP, Bool.and_eq_true, decide_eq_true_eq] at h; exact h.1
theorem con_cut : ∀ vs v, gCut vs = some v → Contract Tryd.prog 80 vs [] (v, []) := by
  intro vs v h
  unfold gCut at h
  split at h <;> cases h
  rename_i s p
  refine el_con la1_ok Tryd.func80 (by kernel_rfl) (by kernel_rfl) rfl (by kernel_rfl) (by kernel_rfl) (Runs.of (fun m => cutp0 m s p) ?_)
  unfold cutt0
  refine ask (fun h => is_refl ?_) (fun h => askT ?_ (is_refl ?_))
  · have := notT h; simp [cutP, this]
  · have := hasP_le (notF h); exact okB (by omega) (by omega) (by omega)
  · have := notF h; simp [cutP, this]
theorem con_onc : ∀ vs v, pOne vs = true → gOne vs = some v → Contract Tryd.prog 43 vs [] (v, []) := by
  intro vs v hp h
  unfold gOne at h
  split at h <;> cases h
  rename_i n
  refine el_con la1_ok Tryd.func43 (by kernel_rfl) (by kernel_rfl) rfl (by kernel_rfl) (by kernel_rfl) (Runs.of (fun m => oncp0 m n) ?_)
  unfold onct0
  exact askT hp (is_refl rfl)
theorem la2_ok : ExtAll Tryd.prog la2 := .norm con_ixf (.norm con_cut (.normP con_onc la1_ok))

/-! ### sect.Write, sect.Read -/
theorem putOk4 (n : Int) : putOk n 4 = f4 n := by simp [putOk, siz, f4]
theorem putOk8 (n : Int) : putOk n 8 = true := by simp [putOk, siz]
theorem putB_le (n : Int) (k : Nat) : (putB n (k : Int)).length ≤ k := by
  unfold putB; split <;> simp [leB]
theorem putE4 (n : Int) : (putE n 4 != 0) = !f4 n := by
  rw [putE, putOk4]; cases f4 n <;> rfl
theorem putB4 {n : Int} (h : f4 n = true) : putB n 4 = leB n 4 := by rw [putB, putOk4, if_pos h]; rfl
theorem putB8 (n : Int) : putB n 8 = leB n 8 := by rw [putB, if_pos (putOk8 n)]; rfl
theorem con_ixg : ∀ vs v, gIxf2 vs = some v → Contract Tryd.prog 79 vs [] (v, []) := by
  intro vs v h
  unfold gIxf2 at h
  split at h <;> cases h
  rename_i s
  exact el_con la2_ok Tryd.func79 (by kernel_rfl) (by kernel_rfl) rfl (by kernel_rfl) (by kernel_rfl) (Runs.of (fun m => ixgp0 m s) (is_refl rfl))
theorem con_cutt : ∀ vs v, gCut vs = some v → Contract Tryd.prog 57 vs [] (v, []) := by
  intro vs v h
  unfold gCut at h
  split at h <;> cases h
  rename_i s p
  exact el_con la2_ok Tryd.func57 (by kernel_rfl) (by kernel_rfl) rfl (by kernel_rfl) (by kernel_rfl) (Runs.of (fun m => cuttp0 m s p) (is_refl rfl))
theorem la3_ok : ExtAll Tryd.prog la3 := .norm con_ixg (.norm con_cutt la2_ok)

/-! ### ContainsFunc, Kind, Check -/
theorem ixG_graph (s : ByteArray) : decide (ixG s ≥ 0) = !graph s := by
  unfold ixG graph
  cases h : s.data.toList.findIdx? (fun b => !okCh b) with
  | none =>
    rw [List.findIdx?_eq_none_iff] at h
    have : s.data.toList.all okCh = true := List.all_eq_true.2 fun b hb => by simpa using h b hb
    rw [this]; rfl
  | some i =>
    have h2 := List.findIdx?_eq_some_iff_getElem.1 h
    obtain ⟨hi, h3, _⟩ := h2
    have : s.data.toList.all okCh = false := by
      rw [Bool.eq_false_iff]
      intro ha
      have := List.all_eq_true.1 ha _ (List.getElem_mem hi)
      rw [this] at h3; cases h3
    rw [this]
    show decide ((i : Int) ≥ 0) = true
    exact decT (by omega)
theorem con_ctn : ∀ vs v, gCtn vs = some v → Contract Tryd.prog 55 vs [] (v, []) := by
  intro vs v h
  unfold gCtn at h
  split at h <;> cases h
  rename_i s
  exact el_con la3_ok Tryd.func55 (by kernel_rfl) (by kernel_rfl) rfl (by kernel_rfl) (by kernel_rfl) (Runs.of (fun m => ctnp0 m s) (is_refl (by rw [ixG_graph])))
theorem la4_ok : ExtAll Tryd.prog la4 := .norm con_ctn la3_ok

theorem lev {I : Info} {fn : Nat × Func × Nat} {Q : R → Prop} {s p : ByteArray} {g : R} {rest : Tr} (h1 : isK s p = true → Q g) (h2 : isK s p = false → rest.prop I fn Q) :
    (Tr.ask (hasP s p) (.ask ((cutP s p).toList == (ByteArray.mk #[]).toList) (.ret g) (.ask (decide ((0 : Int) < (((cutP s p).size : Nat) : Int))) (.ask (byteAt (cutP s p) 0 == 46) (.ret g) rest) .fail)) rest).prop I fn Q := by
  refine ask (fun h => ?_) (fun h => h2 (by rw [isK, h]; rfl))
  have hc : cutP s p = s.extract p.size s.size := by rw [cutP, if_pos h]
  have he : ((s.extract p.size s.size).toList == (ByteArray.mk #[]).toList) = ((s.extract p.size s.size).size == 0) := by
    rw [bytes_eq]
    by_cases hz : (s.extract p.size s.size).size = 0
    · rw [hz]
      have : s.extract p.size s.size = ByteArray.mk #[] := by
        apply ByteArray.ext
        apply Array.eq_empty_of_size_eq_zero
        exact hz
      rw [this]; rfl
    · rw [decF (fun e => hz (by rw [e]; rfl))]
      exact (beq_eq_false_iff_ne.2 hz).symm
  rw [hc, he]
  refine ask (fun h3 => h1 (by rw [isK, h, h3]; rfl)) (fun h3 => askT (decT ?_) (ask (fun h4 => h1 (by rw [isK, h, h4]; simp)) (fun h4 => h2 (by rw [isK, h, h3, h4]; rfl))))
  have := beq_eq_false_iff_ne.1 h3
  omega
theorem con_knd : ∀ vs v, gKnd vs = some v → Contract Tryd.prog 42 vs [] (v, []) := by
  intro vs v h
  unfold gKnd at h
  split at h <;> cases h
  rename_i s
  refine el_con la4_ok Tryd.func42 (by kernel_rfl) (by kernel_rfl) rfl (by kernel_rfl) (by kernel_rfl) (Runs.of (fun m => kndp0 m s) ?_)
  unfold kndt0
  have bad : kindV s = 0 → Is (.tup [.val (.int .u8 (kindV s)), .val (.int .i64 (kindE s))]) (.tup [.val (.int .u8 0), .val (.int .i64 3)], []) := fun h => is_refl (by rw [kindE, h]; rfl)
  have good : ∀ k, k ≠ 0 → kindV s = k → Is (.tup [.val (.int .u8 (kindV s)), .val (.int .i64 (kindE s))]) (.tup [.val (.int .u8 k), .val (.int .i64 0)], []) := fun k hk h => is_refl (by rw [kindE, h, if_neg hk])
  refine ask (fun h => bad ?_) (fun h0 => ask (fun h => bad ?_) (fun h1 => ?_))
  · simp only [decide_eq_true_eq] at h; rw [kindV, if_neg (by omega)]
  · have := notT (notF (notT h))
    rw [kindV, if_neg (by rw [this]; simp)]
  have hg : s.size ≤ 32 ∧ graph s = true := by
    simp only [decide_eq_false_iff_not] at h0
    refine ⟨by omega, ?_⟩
    have := notF h1
    exact notF (notT this)
  refine lev (p := sTxt) (fun h => good 1 (by decide) ?_) (fun k1 => lev (p := sRod) (fun h => good 2 (by decide) ?_) (fun k2 => lev (p := sDat) (fun h => good 3 (by decide) ?_) (fun k3 => lev (p := sBss) (fun h => good 4 (by decide) ?_) (fun k4 => bad ?_))))
  · rw [kindV, if_pos hg, if_pos h]
  · rw [kindV, if_pos hg, k1, h]; rfl
  · rw [kindV, if_pos hg, k1, k2, h]; rfl
  · rw [kindV, if_pos hg, k1, k2, k3, h]; rfl
  · rw [kindV, if_pos hg, k1, k2, k3, k4]; rfl
theorem la5_ok : ExtAll Tryd.prog la5 := .norm con_knd la4_ok

theorem kindE_ne (s : ByteArray) : (kindE s != 0) = decide (kindV s = 0) := by
  rw [kindE]; split <;> simp [*]
theorem con_sec : ∀ vs v, gSec vs = some v → Contract Tryd.prog 33 vs [] (v, []) := by
  intro vs v h
  unfold gSec at h
  split at h <;> cases h
  rename_i s a d z
  refine el_con la5_ok Tryd.func33 (by kernel_rfl) (by kernel_rfl) rfl (by kernel_rfl) (by kernel_rfl) (Runs.of (fun m => secp0 m s a d z) ?_)
  unfold sect0
  have bad : secOk s a d.length z = false → V.val (.int .i64 8) = V.val (.int .i64 (secE s a d.length z)) := fun h => by rw [secE, h]; rfl
  have good : secOk s a d.length z = true → V.val (.int .i64 0) = V.val (.int .i64 (secE s a d.length z)) := fun h => by rw [secE, h]; rfl
  have noal : alignOk a = false → secOk s a d.length z = false := fun h => by rw [secOk, h, Bool.and_false, Bool.false_and]
  rw [kindE_ne]
  generalize ((d.length : Nat) : Int) = dl at bad good noal ⊢
  refine ask (fun h1 => ask (fun h2 => ?_) (fun h2 => ?_)) (fun h1 => ?_)
  · simp only [decide_eq_true_eq] at h1 h2
    have hw : IntKind.wrap .u64 a = a := by rw [wrapU64]; omega
    rw [hw]
    refine askT (andT (decT (by omega)) (decT (by omega))) ?_
    have hal : alignOk a = (ones a == 1) := by rw [alignOk, decT h1, decT h2]; rfl
    refine ask (fun h3 => ask (fun h => is_refl (bad ?_)) (fun h4 => ask (fun h => is_refl (bad ?_)) (fun h5 => ask (fun h => is_refl (bad ?_)) (fun h6 => ask (fun h => is_refl (bad ?_)) (fun h7 => ask (fun h => is_refl (bad ?_)) (fun h8 => is_refl (good ?_))))))) (fun h3 => ask (fun h => is_refl (bad ?_)) (fun h4 => ask (fun h => is_refl (bad ?_)) (fun h5 => ask (fun h => is_refl (bad ?_)) (fun h6 => ask (fun h => is_refl (bad ?_)) (fun h7 => is_refl (good ?_)))))) <;> simp only [beq_iff_eq, beq_eq_false_iff_ne, bne_iff_ne, bne_eq_false_iff_eq, decide_eq_true_eq, decide_eq_false_iff_not, Bool.not_eq_true', Bool.not_eq_false'] at * <;> simp [secOk, hal, *] <;> omega
  · have := noal (by simp only [alignOk, h2, Bool.and_false, Bool.false_and])
    refine ask (fun _ => ask (fun _ => is_refl (bad this)) (fun _ => is_refl (bad this))) (fun _ => ask (fun _ => is_refl (bad this)) (fun _ => is_refl (bad this)))
  · have := noal (by have h1 : decide (0 < a) = false := h1; simp only [alignOk, h1, Bool.false_and])
    refine ask (fun _ => ask (fun _ => is_refl (bad this)) (fun _ => is_refl (bad this))) (fun _ => ask (fun _ => is_refl (bad this)) (fun _ => is_refl (bad this)))
theorem la6_ok : ExtAll Tryd.prog la6 := .norm con_sec la5_ok

end Go.Proofs.YtacfehneeanlgaaDoor.Ev
