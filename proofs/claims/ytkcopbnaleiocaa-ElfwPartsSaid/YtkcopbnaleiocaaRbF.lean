/- A written file is bytes and nothing else: two files of the same bytes are the same rows. -/
import Derived.Test.YtkcopbnaleiocaaRbE
namespace Go.Proofs.Ytkcopbnaleiocaa.Ev
open Go
set_option linter.unusedVariables false
set_option linter.unusedSimpArgs false
theorem i64_app {x y : List (List D)} (hx : I64s x) (hy : I64s y) : I64s (x ++ y) := fun e he => by
  rcases List.mem_append.1 he with he | he
  · exact hx e he
  · exact hy e he
theorem i64_nil : I64s [] := fun e he => (nomatch he)
theorem i64_leB (n : Int) (k : Nat) : I64s (leB n k) := fun e he => by
  obtain ⟨i, _, rfl⟩ := List.mem_map.1 he
  exact ⟨_, rfl⟩
theorem i64_zeros (n : Nat) : I64s (zeros n) := fun e he => by
  obtain ⟨_, rfl⟩ := List.mem_replicate.1 he
  exact ⟨_, rfl⟩
theorem i64_row (s : ByteArray) : I64s (bytesRow s) := fun e he => by
  obtain ⟨b, _, rfl⟩ := List.mem_map.1 he
  exact ⟨_, rfl⟩
theorem i64_putB (n k : Int) : I64s (putB n k) := by
  unfold putB
  split
  · exact i64_leB _ _
  · exact i64_nil
theorem i64_padB {x : List (List D)} (h : I64s x) (m : Int) : I64s (padB x m) := by
  unfold padB
  split
  · exact i64_app h (i64_zeros _)
  · exact i64_nil
theorem i64_flat {f : List D → List (List D)} (hf : ∀ e, I64s (f e)) : ∀ (L : List (List D)), I64s (L.map f).flatten
  | [] => i64_nil
  | e :: t => by rw [List.map_cons, List.flatten_cons]; exact i64_app (hf e) (i64_flat hf t)
theorem i64_nums (k : Int) (l : List (List D)) : I64s (numsB k l) := i64_flat (fun e => i64_putB _ _) l
theorem i64_relRow (e : List D) : I64s (relRow e) := by
  unfold relRow
  split
  · exact i64_app (i64_app (i64_app (i64_putB _ _) (i64_putB _ _)) (i64_putB _ _)) (i64_putB _ _)
  · exact i64_nil
theorem i64_two (a b : Int) : I64s [[.int a], [.int b]] := fun e he => by
  simp only [List.mem_cons, List.not_mem_nil, or_false] at he
  rcases he with rfl | rfl <;> exact ⟨_, rfl⟩
theorem i64_symRow (e : List D) (a : Int) : I64s (symRow e a) := by
  unfold symRow
  split
  · exact i64_app (i64_app (i64_app (i64_app (i64_leB _ _) (i64_two _ _)) (i64_leB _ _)) (i64_leB _ _)) (i64_leB _ _)
  · exact i64_nil
theorem i64_symsF (P : List (List D)) : ∀ (t : List (List D)) (i : Nat), I64s (symsF P t i)
  | [], i => i64_nil
  | e :: t, i => by rw [symsF]; exact i64_app (i64_symRow _ _) (i64_symsF P t (i + 1))
theorem i64_one (n : Int) : I64s [[.int n]] := fun e he => ⟨n, List.mem_singleton.1 he⟩
theorem i64_bldGo : ∀ (ns : List ByteArray) (t m p : List (List D)), I64s t → I64s (bldGo ns t m p).t
  | [], t, m, p, h => by
    unfold bldGo
    split
    · exact i64_nil
    · exact h
  | s :: r, t, m, p, h => by
    unfold bldGo
    split
    · exact i64_nil
    · split
      · exact i64_bldGo r t m _ h
      · exact i64_bldGo r _ _ _ (i64_app (i64_app h (i64_row s)) (i64_one 0))
theorem i64_bldR (xs : List (List D)) : I64s (bldR xs).t := by
  unfold bldR
  split
  · exact i64_nil
  · exact i64_bldGo _ _ _ _ (i64_one 0)
theorem i64_parts : ∀ (ps : List Pt) (f : Fl), (∀ p ∈ ps, I64s p.x) → I64s f.b → I64s (partsF f ps).b
  | [], f, _, h => h
  | p :: t, f, hp, h => i64_parts t (partF f p.nm p.hd p.x) (fun q hq => hp q (List.mem_cons_of_mem _ hq)) (i64_app (i64_padB h _) (hp p List.mem_cons_self))
theorem i64_secP {m : List (List D)} : ∀ {S : List (List D)} {i : Nat}, (∀ e ∈ S, I64s (rA e 2)) → ∀ p ∈ secP m S i, I64s p.x
  | [], i, _, p, hp => by cases hp
  | e :: t, i, h, p, hp => by
    rcases List.mem_cons.1 hp with rfl | hp
    · exact h e List.mem_cons_self
    · exact i64_secP (fun q hq => h q (List.mem_cons_of_mem _ hq)) p hp
theorem i64_relP {N : Int} {S : List (List D)} : ∀ {W : List (List D)} {i : Nat}, (∀ e ∈ W, I64s (rA e 0)) → ∀ p ∈ relP N S W i, I64s p.x
  | [], i, _, p, hp => by cases hp
  | e :: t, i, h, p, hp => by
    rw [relP] at hp
    rcases List.mem_append.1 hp with hp | hp
    · split at hp
      · rw [List.mem_singleton.1 hp]
        exact h e List.mem_cons_self
      · cases hp
    · exact i64_relP (fun q hq => h q (List.mem_cons_of_mem _ hq)) p hp
theorem i64_hd (h : Hd) : I64s h.b := i64_app (i64_app (i64_app (i64_app (i64_app (i64_app (i64_app (i64_app (i64_app (i64_leB _ _) (i64_leB _ _)) (i64_leB _ _)) (i64_leB _ _)) (i64_leB _ _)) (i64_leB _ _)) (i64_leB _ _)) (i64_leB _ _)) (i64_leB _ _)) (i64_leB _ _)
theorem i64_heads (P : List (List D)) : ∀ (t : List (List D)) (i : Nat), I64s (headsF P t i)
  | [], i => i64_nil
  | e :: t, i => by
    rw [headsF]
    refine i64_app ?_ (i64_heads P t (i + 1))
    unfold hdB
    split
    · exact i64_hd _
    · exact i64_nil
theorem i64_ints (l : List Int) : I64s (l.map fun n => [D.int n]) := fun e he => by
  obtain ⟨n, _, rfl⟩ := List.mem_map.1 he
  exact ⟨n, rfl⟩
theorem i64_wrB {S Y L G : List (List D)} (h : chkB S Y L G = true) (sh : SObj S Y L G) : I64s (wrB S Y L G) := by
  obtain ⟨m1, m2⟩ := wrMn_in h
  have hb : I64s (wrF3 S Y L G).b := by
    rw [wrF3_parts]
    refine i64_parts _ _ (fun p hp => ?_) (i64_zeros 64)
    rcases List.mem_append.1 hp with hp | hp
    · rcases List.mem_append.1 hp with hp | hp
      · refine i64_secP (fun e he => ?_) p hp
        obtain ⟨s, a, x, z, rfl, hx⟩ := sh.s e he
        exact fun q hq => by
          obtain ⟨n, e, _⟩ := hx q hq
          exact ⟨n, e⟩
      · rcases List.mem_append.1 hp with hp | hp
        · obtain ⟨e, _, rfl⟩ := List.mem_map.1 hp
          exact i64_app (i64_nums _ _) (i64_nums _ _)
        · refine i64_relP (fun e he => ?_) p hp
          obtain ⟨i, _, rfl⟩ := List.mem_map.1 he
          exact i64_flat i64_relRow _
    · simp only [List.mem_cons, List.not_mem_nil, or_false] at hp
      rcases hp with rfl | rfl | rfl
      · exact i64_app (i64_zeros _) (i64_symsF _ _ _)
      · exact i64_bldR _
      · exact i64_bldR _
  have ha : I64s (wrAll S Y L G) := i64_app (i64_app (i64_padB hb _) (i64_zeros _)) (i64_heads _ _ _)
  rw [wrB_eq h, first_eq (by omega) (by omega)]
  exact i64_app (i64_app (i64_ints _) (i64_app (i64_leB _ _) (i64_app (i64_ints _) (i64_app (i64_leB _ _) (i64_leB _ _))))) fun e he => ha e (List.mem_of_mem_drop he)
theorem u8_wrB {S Y L G : List (List D)} (h : chkB S Y L G = true) (sh : SObj S Y L G) : U8s (wrB S Y L G) := by
  have hb := wrB_bytes h (fun e he => by
    obtain ⟨s, a, x, z, rfl, hx⟩ := sh.s e he
    refine List.all_eq_true.2 fun q hq => ?_
    obtain ⟨n, rfl, n0, n1⟩ := hx q hq
    exact andT (decT n0) (decT n1)) (List.all_eq_true.2 fun e he => by
    obtain ⟨s, b, hd, w, v, z, rfl, b0, b1⟩ := sh.y e he
    exact decT b0)
  intro e he
  obtain ⟨n, rfl⟩ := i64_wrB h sh e he
  have := List.all_eq_true.1 hb _ he
  simp only [Bool.and_eq_true, decide_eq_true_eq] at this
  exact ⟨n, rfl, this.1, this.2⟩
theorem wr_yes {S Y L G : List (List D)} (h : wrE S Y L G = 0) : chkB S Y L G = true ∧ (wrAll S Y L G).length ≤ 65536 ∧ wrV S Y L G = wrB S Y L G := by
  have hv : wrV S Y L G = wrB S Y L G := by rw [wrV, if_pos h]
  by_cases hk : chkB S Y L G = true
  · rw [wrE, if_pos hk] at h
    by_cases hl : (wrAll S Y L G).length > 65536
    · rw [if_pos hl] at h; omega
    · exact ⟨hk, by omega, hv⟩
  · rw [wrE, if_neg hk] at h; omega
/-- Two objects of the same file are the same. -/
theorem apart_eq {S Y L G S' Y' L' G' : List (List D)} (h : wrE S Y L G = 0) (h' : wrE S' Y' L' G' = 0) (sh : SObj S Y L G) (sh' : SObj S' Y' L' G') :
    ((rowBytes (wrV S Y L G)).toList == (rowBytes (wrV S' Y' L' G')).toList) = sameO S Y L G S' Y' L' G' := by
  obtain ⟨k, l, v⟩ := wr_yes h
  obtain ⟨k', l', v'⟩ := wr_yes h'
  rw [bytes_eq, Bool.eq_iff_iff, decide_eq_true_eq, same_eq sh sh', v, v']
  constructor
  · intro e
    have e := bytes_inj (u8_wrB k sh) (u8_wrB k' sh') e
    obtain ⟨a1, a2, a3, a4, _⟩ := read_back k sh l
    obtain ⟨b1, b2, b3, b4, _⟩ := read_back k' sh' l'
    rw [e] at a1 a2 a3 a4
    exact ⟨a1.symm.trans b1, a2.symm.trans b2, a3.symm.trans b3, a4.symm.trans b4⟩
  · rintro ⟨rfl, rfl, rfl, rfl⟩; rfl
end Go.Proofs.Ytkcopbnaleiocaa.Ev
