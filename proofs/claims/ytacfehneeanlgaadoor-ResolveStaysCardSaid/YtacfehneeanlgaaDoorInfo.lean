/- What is known of the program; what is kept behind each region. -/
import Derived.Test.YtacfehneeanlgaaDoorLaw
import Derived.Test.YtacfehneeanlgaaDoorKeep
import Derived.Lib.BytesEntry
import Derived.Test.YtacfehneeanlgaaDoorProg
namespace Go.Proofs.YtacfehneeanlgaaDoor.Ev
open Go
set_option linter.unusedVariables false
def ctOf (P : Program) : Nat → TypeId → Option (List CT)
  | 0, _ => none
  | n + 1, t => match P.underlying t with
    | some (.int k) => some [.int k]
    | some .bool => some [.bool]
    | some .string => some [.str]
    | some (.slice e) => (ctOf P n e).map fun c => [.arr c]
    | some (.array k e) => (ctOf P n e).map fun c => (List.replicate k c).flatten
    | some (.func _ _ _) => some [.fn]
    | some (.struct fs) => ctAll (ctOf P n) fs.toList
    | _ => none
where ctAll (f : TypeId → Option (List CT)) : List Field → Option (List CT)
  | [] => some []
  | x :: xs => match f x.type, ctAll f xs with | some a, some b => some (a ++ b) | _, _ => none
def infoWith (P : Program) (ext : Nat → Option (List V → List (List V) → Option R)) (entry : Nat → Option (List V → Option Value)) (keep : Nat → Nat → Option (List Nat)) : Info where
  entry := entry
  func := fun f => P.funcs[f]?
  ext := ext
  pre := fun _ _ _ => true
  und := P.underlying
  size := fun t => (P.info? t).map (·.size)
  zero := fun t => (P.info? t).bind fun i => i.zero.map fun z => z.cells.toList.map V.val
  cts := fun t => match ctOf P 20 t, P.info? t with | some cs, some i => if i.size = cs.length then some cs else none | _, _ => none
  bytes := fun t => (P.info? t).map (·.bytes)
  zval := fun t => (P.info? t).bind (·.zero)
  keep := keep
  eqOk := fun t => !P.stoodInHeld t && !P.eqGuardType P.depth t
  touch := fun _ => none
  lenAt := fun p => !(p == "elfw.go:204" || p == "elfw.go:212")
theorem infoWith_ok (P : Program) (ext : Nat → Option (List V → List (List V) → Option R)) (entry : Nat → Option (List V → Option Value)) (keep : Nat → Nat → Option (List Nat)) (hm : P.follows .mixedOrders = true) : InfoOk P (infoWith P ext entry keep) where
  und := fun h => h
  size := fun {t n} h => by
    simp only [infoWith, Option.map_eq_some_iff] at h
    exact h
  zero := fun {t zs} h => by
    simp only [infoWith, Option.bind_eq_some_iff, Option.map_eq_some_iff] at h
    obtain ⟨i, hi, z, hz, rfl⟩ := h
    exact ⟨i, z, hi, hz, rfl⟩
  cts := fun {t cs} h => by
    simp only [infoWith] at h
    split at h
    · rename_i c i _ hi
      split at h
      · rename_i e
        cases h
        exact ⟨i, hi, e⟩
      · cases h
    · cases h
  bytes := fun {t n} h => by
    simp only [infoWith, Option.map_eq_some_iff] at h
    exact h
  zval := fun {t z} h => by
    simp only [infoWith, Option.bind_eq_some_iff] at h
    exact h
  func := fun h => h
  mixed := hm
  eqOk := fun {t} h => by simpa [infoWith] using h
/-! ### Functions without a body -/
def bytesOfRow (xs : List (List D)) : List Int := xs.map fun e => (e.getD 0 default).toInt
/-- internal/bytealg.IndexByte, IndexByteString. -/
def indexByteE : List V → Option Value
  | [.val (.string s), .val (.int .u8 c)] => some (.int .i64 (Lib.indexByte s.data.toList c.toNat.toUInt8))
  | [.val (.slice none 0 0), .val (.int .u8 c)] => some (.int .i64 (-1))
  | [.arr cts xs, .val (.int .u8 c)] => if sameCTs cts [.int .u8] then some (.int .i64 (Lib.indexByte (Lib.bytesOf (bytesOfRow xs)) c.toNat.toUInt8)) else none
  | [.own cts xs, .val (.int .u8 c)] => if sameCTs cts [.int .u8] then some (.int .i64 (Lib.indexByte (Lib.bytesOf (bytesOfRow xs)) c.toNat.toUInt8)) else none
  | _ => none
theorem indexByte_entry {P : Program} {f : Nat} {fn : Func} (hf : P.funcs[f]? = some fn) (hname : (fn.name == "runtime.NumGoroutine") = false) (hb : fn.body.isNone = true) (hn : Extern.findNext fn = none) (he : Extern.find fn = some Extern.BytealgIndexByte.indexByte)
    {vs : List V} {c : Value} (h : indexByteE vs = some c) : Entry P f vs c := by
  intro g w cargs hH
  rw [run_callFunc_extern hf hname hb hn he]
  have row : ∀ (xs : List (List D)) (v : Value) (n : Int), cargs = #[v, .int .u8 n] → DRel g.stable w (.arr [.int .u8]) (.arr xs) v → (Extern.BytealgIndexByte.indexByte cargs).run P w = .ok (.int .i64 (Lib.indexByte (Lib.bytesOf (bytesOfRow xs)) n.toNat.toUInt8)) w := by
    intro xs v n e hd
    subst e
    rcases row_inv (s := .none) hd with ⟨rfl, p, rfl⟩ | ⟨b, q, cap, rfl, _, _⟩
    · cases p with
      | none => exact Lib.run_indexByteNil w 0 0 n
      | some a => exact Lib.run_indexByteString .empty n w
    · obtain ⟨us, h1, h2⟩ := rowVals_of hd
      refine Lib.run_indexByteSlice w b q xs.length cap (bytesOfRow xs) (by simp [bytesOfRow]) (fun i hi => ?_) n
      obtain ⟨u, h3, h4⟩ := h1.2 i 0 _ hi rfl
      simp only [List.length_singleton, Nat.mul_one, Nat.add_zero] at h3
      rw [(h2 i u h3).2]
      cases h4
      simp [bytesOfRow, List.getElem?_eq_getElem hi, List.getD_eq_getElem?_getD]
  have two : ∀ (v1 : V) (n : Int), vs = [v1, .val (.int .u8 n)] → ∃ c1, cargs = #[c1, .int .u8 n] ∧ VRel g w (.tmp 0) v1 c1 := by
    intro v1 n e
    subst e
    obtain ⟨c1, a1, a2⟩ := hH.args 0 v1 rfl
    obtain ⟨c2, b1, b2⟩ := hH.args 1 _ rfl
    have := val_inv b2
    subst this
    have hs := hH.size
    refine ⟨c1, ?_, a2⟩
    apply Array.ext
    · simpa using hs
    · intro i h1 h2
      match i with
      | 0 => rw [Array.getElem?_eq_getElem h1] at a1; simpa using a1
      | 1 => rw [Array.getElem?_eq_getElem h1] at b1; simpa using b1
      | _ + 2 => simp at hs; omega
  unfold indexByteE at h
  split at h
  · rename_i s n
    cases h
    obtain ⟨c1, rfl, hv⟩ := two _ n rfl
    rw [val_inv hv, Lib.run_indexByteString]
    rfl
  · rename_i n
    cases h
    obtain ⟨c1, rfl, hv⟩ := two _ n rfl
    rw [val_inv hv, Lib.run_indexByteNil]
    rfl
  · rename_i cts xs n
    split at h
    · rename_i hc
      cases h
      obtain ⟨c1, rfl, hv⟩ := two _ n rfl
      have hd := arr_d hv
      rw [sameCTs_eq _ _ hc] at hd
      rw [row xs c1 n rfl hd]
      rfl
    · cases h
  · rename_i cts xs n
    split at h
    · rename_i hc
      cases h
      obtain ⟨c1, rfl, hv⟩ := two _ n rfl
      have hd := own_d hv
      rw [sameCTs_eq _ _ hc] at hd
      rw [row xs c1 n rfl hd]
      rfl
    · cases h
  · cases h
def keepOf (f r : Nat) : Option (List Nat) := (getA keepTab f).bind (getA · r)
end Go.Proofs.YtacfehneeanlgaaDoor.Ev
