/- What is known of the program; what is kept behind each region. -/
import Derived.Test.YthloggdgdklgmaaLaw
import Derived.Lib.BytesEntry
import Derived.Test.YthloggdgdklgmaaProg
namespace Go.Proofs.Ythloggdgdklgmaa.Ev
open Go
set_option linter.unusedVariables false
def ctOf (P : Program) : Nat → TypeId → Option (List CT)
  | 0, _ => none
  | n + 1, t => match P.underlying t with
    | some (.int k) => some [.int k]
    | some .bool => some [.bool]
    | some .string => some [.str]
    | some (.slice e) => (ctOf P n e).map fun c => [.arr c]
    | some (.struct fs) => ctAll (ctOf P n) fs.toList
    | _ => none
where ctAll (f : TypeId → Option (List CT)) : List Field → Option (List CT)
  | [] => some []
  | x :: xs => match f x.type, ctAll f xs with | some a, some b => some (a ++ b) | _, _ => none
def infoWith (P : Program) (ext : Nat → Option (List V → List (List V) → Option R)) (entry : Nat → Option (List V → Option Value)) (keep : Nat → Nat → Option (List Nat)) : Info where
  entry := entry
  func := fun f => P.funcs[f]?
  ext := ext
  und := P.underlying
  size := fun t => (P.info? t).map (·.size)
  zero := fun t => (P.info? t).bind fun i => i.zero.map fun z => z.cells.toList.map V.val
  cts := fun t => match ctOf P 20 t, P.info? t with | some cs, some i => if i.size = cs.length then some cs else none | _, _ => none
  bytes := fun t => (P.info? t).map (·.bytes)
  zval := fun t => (P.info? t).bind (·.zero)
  keep := keep
theorem infoWith_ok (P : Program) (ext : Nat → Option (List V → List (List V) → Option R)) (entry : Nat → Option (List V → Option Value)) (keep : Nat → Nat → Option (List Nat)) (hm : P.follows .mixedOrders = true) : InfoOk P (infoWith P ext entry keep) where
  und := fun h => h
  size := fun {t n} h => by
    simp only [infoWith, Option.map_eq_some_iff] at h
    exact h
  zero := fun {t zs} h => by
    simp only [infoWith, Option.bind_eq_some_iff, Option.map_eq_some_iff] at h
    obtain ⟨i, hi, z, hz, rfl⟩ := h
    exact ⟨i, z, hi, hz, rfl⟩
  cts := fun {t cs} h => by
    simp only [infoWith] at h
    split at h
    · rename_i c i _ hi
      split at h
      · rename_i e
        cases h
        exact ⟨i, hi, e⟩
      · cases h
    · cases h
  bytes := fun {t n} h => by
    simp only [infoWith, Option.map_eq_some_iff] at h
    exact h
  zval := fun {t z} h => by
    simp only [infoWith, Option.bind_eq_some_iff] at h
    exact h
  func := fun h => h
  mixed := hm
/-! ### Functions without a body -/
def bytesOfRow (xs : List (List D)) : List Int := xs.map fun e => (e.getD 0 default).toInt
/-- internal/bytealg.IndexByte, IndexByteString. -/
def indexByteE : List V → Option Value
  | [.val (.string s), .val (.int .u8 c)] => some (.int .i64 (Lib.indexByte s.data.toList c.toNat.toUInt8))
  | [.val (.slice none 0 0), .val (.int .u8 c)] => some (.int .i64 (-1))
  | [.arr cts xs, .val (.int .u8 c)] => if sameCTs cts [.int .u8] then some (.int .i64 (Lib.indexByte (Lib.bytesOf (bytesOfRow xs)) c.toNat.toUInt8)) else none
  | [.own cts xs, .val (.int .u8 c)] => if sameCTs cts [.int .u8] then some (.int .i64 (Lib.indexByte (Lib.bytesOf (bytesOfRow xs)) c.toNat.toUInt8)) else none
  | _ => none
theorem indexByte_entry {P : Program} {f : Nat} {fn : Func} (hf : P.funcs[f]? = some fn) (hname : (fn.name == "runtime.NumGoroutine") = false) (hb : fn.body.isNone = true) (hn : Extern.findNext fn = none) (he : Extern.find fn = some Extern.BytealgIndexByte.indexByte)
    {vs : List V} {c : Value} (h : indexByteE vs = some c) : Entry P f vs c := by
  intro g w cargs hH
  rw [run_callFunc_extern hf hname hb hn he]
  have row : ∀ (xs : List (List D)) (v : Value) (n : Int), cargs = #[v, .int .u8 n] → DRel g.stable w (.arr [.int .u8]) (.arr xs) v → (Extern.BytealgIndexByte.indexByte cargs).run P w = .ok (.int .i64 (Lib.indexByte (Lib.bytesOf (bytesOfRow xs)) n.toNat.toUInt8)) w := by
    intro xs v n e hd
    subst e
    rcases row_inv (s := .none) hd with ⟨rfl, rfl⟩ | ⟨b, q, cap, rfl, _, _⟩
    · exact Lib.run_indexByteNil w 0 0 n
    · obtain ⟨us, h1, h2⟩ := rowVals_of hd
      refine Lib.run_indexByteSlice w b q xs.length cap (bytesOfRow xs) (by simp [bytesOfRow]) (fun i hi => ?_) n
      obtain ⟨u, h3, h4⟩ := h1.2 i 0 _ hi rfl
      simp only [List.length_singleton, Nat.mul_one, Nat.add_zero] at h3
      rw [(h2 i u h3).2]
      cases h4
      simp [bytesOfRow, List.getElem?_eq_getElem hi, List.getD_eq_getElem?_getD]
  have two : ∀ (v1 : V) (n : Int), vs = [v1, .val (.int .u8 n)] → ∃ c1, cargs = #[c1, .int .u8 n] ∧ VRel g w (.tmp 0) v1 c1 := by
    intro v1 n e
    subst e
    obtain ⟨c1, a1, a2⟩ := hH.args 0 v1 rfl
    obtain ⟨c2, b1, b2⟩ := hH.args 1 _ rfl
    have := val_inv b2
    subst this
    have hs := hH.size
    refine ⟨c1, ?_, a2⟩
    apply Array.ext
    · simpa using hs
    · intro i h1 h2
      match i with
      | 0 => rw [Array.getElem?_eq_getElem h1] at a1; simpa using a1
      | 1 => rw [Array.getElem?_eq_getElem h1] at b1; simpa using b1
      | _ + 2 => simp at hs; omega
  unfold indexByteE at h
  split at h
  · rename_i s n
    cases h
    obtain ⟨c1, rfl, hv⟩ := two _ n rfl
    rw [val_inv hv, Lib.run_indexByteString]
    rfl
  · rename_i n
    cases h
    obtain ⟨c1, rfl, hv⟩ := two _ n rfl
    rw [val_inv hv, Lib.run_indexByteNil]
    rfl
  · rename_i cts xs n
    split at h
    · rename_i hc
      cases h
      obtain ⟨c1, rfl, hv⟩ := two _ n rfl
      have hd := arr_d hv
      rw [sameCTs_eq _ _ hc] at hd
      rw [row xs c1 n rfl hd]
      rfl
    · cases h
  · rename_i cts xs n
    split at h
    · rename_i hc
      cases h
      obtain ⟨c1, rfl, hv⟩ := two _ n rfl
      have hd := own_d hv
      rw [sameCTs_eq _ _ hc] at hd
      rw [row xs c1 n rfl hd]
      rfl
    · cases h
  · cases h
def keepTab : List (Nat × List (Nat × List Nat)) := [
  (3, [(0, [0, 1, 2, 3]), (1, [0, 1, 2, 3, 15]), (2, [8]), (3, [0, 1, 2, 3, 9, 10]), (4, [9, 10, 11, 12]), (5, [8])]),
  (4, [(0, [0, 1]), (1, [0, 1, 5]), (2, [0, 1, 5, 18]), (3, [4]), (4, [0, 1, 5, 29]), (5, [4]), (6, [0, 1, 5, 6, 7, 8]), (7, [0, 1, 5, 6, 7, 38]), (8, [4]), (9, [0, 1, 5, 6, 7, 9]), (10, [0, 1, 5, 6, 7, 10, 11, 12]), (11, [0, 1, 5, 6, 7, 10, 11, 12, 68]), (12, [4]), (13, [0, 1, 5, 6, 7, 10, 11, 13]), (14, [0, 5, 6, 7, 11, 13, 114]), (15, [4]), (16, [0, 5, 6, 7, 11, 13, 14]), (17, [0, 5, 6, 7, 11, 13, 14, 121]), (18, [0, 5, 6, 7, 11, 13, 14]), (19, [0, 5, 6, 7, 11, 13, 14, 15]), (20, [0, 5, 6, 7, 11, 13, 14, 15, 126]), (21, [0, 5, 6, 7, 11, 13, 14, 15]), (22, [0, 5, 6, 7, 11, 13, 14, 15, 147]), (23, [4]), (24, [0, 5, 6, 7, 11, 13, 14, 187]), (25, [4]), (26, [4])]),
  (5, [(0, []), (1, [1]), (2, [1, 2, 3]), (3, [1, 2, 3, 4, 5]), (4, [2, 3, 4, 5, 7]), (5, [2, 3, 4, 5, 7, 10]), (6, [2, 3, 4, 5, 7, 10, 13]), (7, [0])]),
  (6, [(0, [0, 1, 2]), (1, [0, 1, 2, 24]), (2, [6]), (3, [0, 1, 2, 7]), (4, [0, 1, 2, 7, 8, 9, 10]), (5, [1, 2, 7, 8, 9, 10, 11, 12, 13]), (6, [1, 2, 7, 8, 9, 10, 11, 12, 13, 14, 15]), (7, [1, 7, 8, 9, 10, 11, 12, 13, 14, 15, 16, 17]), (8, [6])]),
  (7, [(0, [0]), (1, [0, 3]), (2, [0, 3, 19]), (3, [2]), (4, [0, 3, 21]), (5, [2]), (6, [0, 3, 4, 5, 6]), (7, [0, 3, 4, 5, 30]), (8, [2]), (9, [0, 3, 4, 5, 51]), (10, [2]), (11, [0, 3, 4, 5, 7]), (12, [0, 3, 4, 5, 7, 55]), (13, [0, 3, 4, 5, 7]), (14, [0, 3, 4, 5, 7, 8, 9]), (15, [0, 3, 4, 5, 7, 76]), (16, [2]), (17, [3, 4, 10]), (18, [3, 4, 10, 11]), (19, [3, 4, 10, 11, 80]), (20, [3, 4, 10, 11, 12, 13]), (21, [3, 4, 10, 11, 12, 88]), (22, [2]), (23, [3, 4, 10, 11, 12]), (24, [3, 4, 10, 11]), (25, [3, 4, 14, 16]), (26, [2])]),
  (8, [(0, [0, 1]), (1, [0, 1, 5]), (2, [0, 1, 5, 12]), (3, [4]), (4, [0, 1, 5, 15]), (5, [4]), (6, [0, 1, 5, 6, 7]), (7, [0, 1, 5, 6, 24]), (8, [4]), (9, [0, 1, 5, 6, 77]), (10, [4]), (11, [0, 1, 5, 6, 80]), (12, [4]), (13, [5, 6, 8, 9]), (14, [4])]),
  (9, [(0, [0, 1]), (1, [0, 1, 5]), (2, [0, 1, 5, 13]), (3, [4]), (4, [0, 1, 5, 16]), (5, [4]), (6, [0, 1, 5, 6, 7]), (7, [0, 1, 5, 6, 7, 25]), (8, [4]), (9, [0, 1, 5, 6, 8]), (10, [0, 1, 5, 6, 8, 53]), (11, [0, 1, 5, 6, 8]), (12, [0, 1, 5, 6, 8, 71]), (13, [4]), (14, [0, 1, 5, 6, 88]), (15, [4]), (16, [0, 1, 5, 6, 90]), (17, [4]), (18, [5, 6, 9, 10]), (19, [4])]),
  (10, [(0, [0, 1, 2, 3, 8]), (1, [0, 1, 2, 3, 8, 14]), (2, [8, 9]), (3, [1, 2, 3, 8, 15, 16, 17]), (4, [1, 2, 3, 8, 15, 16, 17, 18]), (5, [1, 2, 3, 8, 11, 15, 16, 17]), (6, [1, 2, 3, 8, 11, 15, 16, 17, 34]), (7, [8, 9]), (8, [1, 2, 3, 8, 11, 15, 16, 17, 50]), (9, [1, 2, 3, 8, 15, 16, 17]), (10, [1, 2, 3, 8, 15, 16, 17]), (11, [8, 9])]),
  (11, [(0, [0, 1, 2, 3]), (1, [0, 1, 2, 3, 14]), (2, [8, 9]), (3, [0, 1, 2, 3, 10]), (4, [0, 1, 2, 3, 10, 18]), (5, [0, 1, 2, 3, 10]), (6, [0, 1, 2, 3, 10, 11]), (7, [0, 1, 2, 3, 10, 42]), (8, [8, 9]), (9, [8, 9])]),
  (12, [(0, []), (1, [1, 2, 3]), (2, [0])]),
  (13, [(0, [0]), (1, [0, 3]), (2, [0, 3, 4]), (3, [0, 3, 4, 12]), (4, [0, 3, 4]), (5, [0, 3, 4]), (6, [2])]),
  (14, [(0, [0, 3]), (1, [0, 3, 12]), (2, [2, 3, 4]), (3, [0, 2, 3]), (4, [0, 2, 3, 5]), (5, [2, 3, 5, 16, 17, 18]), (6, [2, 3, 5, 16, 17, 18, 19]), (7, [2, 3, 5, 7, 16, 17, 18]), (8, [2, 3, 5, 7, 16, 17, 18, 29]), (9, [2, 3, 4]), (10, [2, 3, 5, 7, 8, 9, 16, 17, 18]), (11, [2, 3, 5, 7, 8, 16, 17, 18, 37]), (12, [2, 3, 5, 7, 8, 16, 17, 18]), (13, [2, 3, 5, 7, 8, 16, 17, 18]), (14, [2, 3, 5, 8, 16, 17, 18]), (15, [2, 3, 5, 16, 17, 18]), (16, [2, 3, 5, 16, 17, 18]), (17, [2, 3, 55]), (18, [2, 3, 4]), (19, [2, 3, 4])]),
  (15, [(0, [0]), (1, [0, 3]), (2, [25]), (3, [2]), (4, [2])]),
  (16, [(0, [0, 1]), (1, [0, 1, 6]), (2, [0, 1, 6, 10]), (3, [4, 5]), (4, [0, 1, 19]), (5, [4, 5]), (6, [4, 5])]),
  (17, [(0, [0]), (1, [0, 10]), (2, [2, 3, 4]), (3, [0, 5]), (4, [0, 5, 14]), (5, [0, 5]), (6, [0, 5, 22]), (7, [2, 3, 4]), (8, [6, 7]), (9, [6, 7, 30]), (10, [2, 3, 4]), (11, [2, 3, 4])]),
  (18, [(0, [0, 1]), (1, [0, 1, 20]), (2, [4, 5]), (3, [6]), (4, [4, 5])]),
  (19, [(0, [0, 1]), (1, [0, 1, 10]), (2, [4]), (3, [0, 1, 5]), (4, [0, 1, 5, 14]), (5, [0, 1, 5]), (6, [0, 1, 5, 25]), (7, [4]), (8, [4])]),
  (20, [(0, [0]), (1, [25]), (2, [2]), (3, [2])]),
  (21, [(0, [0, 1, 2, 3]), (1, [0, 1, 2, 3, 9]), (2, [0, 1, 2, 3, 9, 10]), (3, [0, 1, 2, 3, 9, 10, 15]), (4, [0, 1, 2, 3, 9, 10]), (5, [0, 1, 2, 3, 9, 10, 11]), (6, [0, 1, 2, 3, 9, 10, 11, 37]), (7, [0, 1, 2, 3, 9, 10]), (8, [8])]),
  (22, [(0, [0, 1]), (1, [4])]),
  (23, [(0, [0, 1]), (1, [4])]),
  (24, [(0, [0]), (1, [0, 3]), (2, [0, 3, 7]), (3, [0, 3]), (4, [0, 3, 13]), (5, [2]), (6, [2])]),
  (25, [(0, [0]), (1, [0, 4]), (2, [0, 4, 5]), (3, [0, 4, 5, 6]), (4, [0, 4, 5, 6, 13]), (5, [0, 4, 5, 6]), (6, [0, 4, 5, 6, 18]), (7, [0, 4, 5, 6]), (8, [0, 4, 5, 6]), (9, [0, 4, 5, 6]), (10, [0, 4, 5, 6, 7]), (11, [0, 4, 5, 6, 7, 8]), (12, [0, 4, 5, 6, 7, 8, 36]), (13, [0, 4, 5, 6, 7, 8]), (14, [0, 4, 5, 6, 7, 8, 47]), (15, [0, 4, 5, 6, 7, 8]), (16, [0, 4, 5, 6]), (17, [2, 3])]),
  (26, [(0, [0, 1]), (1, [0, 1, 6]), (2, [0, 1, 6, 15]), (3, [0, 1, 6]), (4, [0, 1, 6, 22]), (5, [4, 5]), (6, [4, 5])]),
  (27, [(0, [0, 1]), (1, [4])]),
  (28, []),
  (29, [(0, [0, 1]), (1, [0, 1, 5]), (2, [0, 1, 5, 8]), (3, [0, 1, 5]), (4, [0, 1, 5, 19]), (5, [4]), (6, [4])]),
  (30, [])]
def keepOf (f r : Nat) : Option (List Nat) := (getA keepTab f).bind (getA · r)
end Go.Proofs.Ythloggdgdklgmaa.Ev
