/- A written file's parts: where they lie, and that its heads are read. -/
import Derived.Test.YtkcopbnaleiocaaRbA
namespace Go.Proofs.Ytkcopbnaleiocaa.Ev
open Go
set_option linter.unusedVariables false
set_option linter.unusedSimpArgs false
/-! ### Parts -/
structure Pt where
  nm : ByteArray
  hd : Hd
  x : List (List D)
def partsF (f : Fl) (ps : List Pt) : Fl := ps.foldl (fun f p => partF f p.nm p.hd p.x) f
def secP (m : List (List D)) : List (List D) → Nat → List Pt
  | [], _ => []
  | e :: t, i => ⟨rS e 0, secHd m i e, rA e 2⟩ :: secP m t (i + 1)
def grpP (N : Int) (G : List (List D)) : List Pt := G.map fun e => ⟨sGrp ++ rS e 0, ⟨0, 17, 0, 0, 0, 0, N, 0, 4, 4⟩, numsB 4 [[.int 1]] ++ numsB 4 (rA e 1)⟩
def relP (N : Int) (S : List (List D)) : List (List D) → Nat → List Pt
  | [], _ => []
  | e :: t, i => (if 0 < (rA e 0).length then [⟨sRel ++ rS (S.getD i []) 0, ⟨0, 4, 64, 0, 0, 0, N, ((i + 1 : Nat) : Int), 8, 24⟩, rA e 0⟩] else []) ++ relP N S t (i + 1)
def symP (S Y L G : List (List D)) : Pt := ⟨sSym, ⟨0, 2, 0, 0, 0, 0, ((symFirst S L G + 1 : Nat) : Int), ((locals Y + 1 : Nat) : Int), 8, 24⟩, zeros 24 ++ symsF (bldR (namesY Y)).p Y 0⟩
def strP (Y : List (List D)) : Pt := ⟨sStr, ⟨0, 3, 0, 0, 0, 0, 0, 0, 1, 0⟩, (bldR (namesY Y)).t⟩
def shsP (S Y L G : List (List D)) : Pt := ⟨sShs, ⟨0, 3, 0, 0, 0, 0, 0, 0, 1, 0⟩, (wrTb S Y L G).t⟩
def datP (S L G : List (List D)) : List Pt := secP (grpMap G []) S 0 ++ (grpP (symFirst S L G) G ++ relP (symFirst S L G) S (byS S.length L) 0)
def allP (S Y L G : List (List D)) : List Pt := datP S L G ++ [symP S Y L G, strP Y, shsP S Y L G]
theorem partsF_app (f : Fl) (a b : List Pt) : partsF f (a ++ b) = partsF (partsF f a) b := List.foldl_append
theorem secsF_parts {m : List (List D)} : ∀ (S : List (List D)) (i : Nat) (f : Fl), secsF m S i f = partsF f (secP m S i)
  | [], i, f => rfl
  | e :: t, i, f => by rw [secsF, secsF_parts t]; rfl
theorem grpsF_parts (N : Int) : ∀ (G : List (List D)) (f : Fl), grpsF N G f = partsF f (grpP N G)
  | [], f => rfl
  | e :: t, f => grpsF_parts N t _
theorem relsF_parts (N : Int) (S : List (List D)) : ∀ (W : List (List D)) (i : Nat) (f : Fl), relsF N S W i f = partsF f (relP N S W i)
  | [], i, f => rfl
  | e :: t, i, f => by
    rw [relsF, relsF_parts N S t, relP, partsF_app]
    by_cases h : 0 < (rA e 0).length
    · rw [if_pos h, if_pos h]; rfl
    · rw [if_neg h, if_neg h]; rfl
theorem wrF2_parts (S Y L G : List (List D)) : wrF2 S Y L G = partsF ⟨zeros 64, [], []⟩ (datP S L G ++ [symP S Y L G, strP Y]) := by
  rw [wrF2, secsF_parts, restF, grpsF_parts, relsF_parts, datP, partsF_app, partsF_app, partsF_app]; rfl
theorem wrF3_parts (S Y L G : List (List D)) : wrF3 S Y L G = partsF ⟨zeros 64, [], []⟩ (allP S Y L G) := by
  rw [wrF3, wrF2_parts, allP, partsF_app, partsF_app]; rfl
/-! ### Where parts lie -/
def Pt.put (p : Pt) (o : Nat) : Hd := { p.hd with offset := (o : Nat), size := if p.hd.type = 8 then p.hd.size else (p.x.length : Nat) }
inductive Pl (b : List (List D)) : List Pt → List Hd → Prop
  | nil : Pl b [] []
  | cons {p : Pt} {ps : List Pt} {hs : List Hd} (o : Nat) (ho : 64 ≤ o) (h : Has b o p.x) (t : Pl b ps hs) : Pl b (p :: ps) (p.put o :: hs)
theorem pl_mono {b b' : List (List D)} (m : ∀ o x, 64 ≤ o → Has b o x → Has b' o x) : ∀ {ps : List Pt} {hs : List Hd}, Pl b ps hs → Pl b' ps hs
  | _, _, .nil => .nil
  | _, _, .cons o ho h t => .cons o ho (m o _ ho h) (pl_mono m t)
theorem placed : ∀ (ps : List Pt) (f : Fl), (∀ p ∈ ps, padOk p.hd.align = true) → 64 ≤ f.b.length → ∃ hs c, (partsF f ps).b = f.b ++ c ∧ (partsF f ps).heads = f.heads ++ hs.map Hd.row ∧ Pl (partsF f ps).b ps hs ∧ (partsF f ps).names = f.names ++ ps.map fun p => [.str p.nm]
  | [], f, _, _ => ⟨[], [], (List.append_nil _).symm, (List.append_nil _).symm, .nil, (List.append_nil _).symm⟩
  | p :: t, f, ha, hf => by
    have hp := ha p List.mem_cons_self
    have hb : padB f.b p.hd.align = f.b ++ zeros (padN f.b.length p.hd.align).toNat := by rw [padB, if_pos hp]
    have hb1 : (partF f p.nm p.hd p.x).b = padB f.b p.hd.align ++ p.x := rfl
    have hge := partF_ge f p.nm p.hd p.x hp
    obtain ⟨hs, c, e1, e2, e3, e4⟩ := placed t (partF f p.nm p.hd p.x) (fun q hq => ha q (List.mem_cons_of_mem _ hq)) (by omega)
    have e0 : partsF f (p :: t) = partsF (partF f p.nm p.hd p.x) t := rfl
    rw [e0]
    refine ⟨p.put (padB f.b p.hd.align).length :: hs, (zeros (padN f.b.length p.hd.align).toNat ++ p.x) ++ c, ?_, ?_, ?_, ?_⟩
    · rw [e1, hb1, hb]; simp only [List.append_assoc]
    · rw [e2]; simp only [partF, List.append_assoc, List.map_cons, List.cons_append, List.nil_append]; rfl
    · refine .cons _ ?_ ?_ e3
      · rw [hb, List.length_append]; omega
      · rw [e1, hb1]
        exact has_app ⟨padB f.b p.hd.align, [], by rw [List.append_nil], rfl⟩ c
    · rw [e4]; simp only [partF, List.append_assoc, List.map_cons, List.cons_append, List.nil_append]
theorem pl_app {b : List (List D)} : ∀ {a c : List Pt} {hs : List Hd}, Pl b (a ++ c) hs → ∃ h1 h2, hs = h1 ++ h2 ∧ Pl b a h1 ∧ Pl b c h2
  | [], c, hs, h => ⟨[], hs, rfl, .nil, h⟩
  | p :: a, c, _, .cons o ho h t => by
    obtain ⟨h1, h2, rfl, k1, k2⟩ := pl_app t
    exact ⟨p.put o :: h1, h2, rfl, .cons o ho h k1, k2⟩
theorem pl_len {b : List (List D)} : ∀ {ps : List Pt} {hs : List Hd}, Pl b ps hs → hs.length = ps.length
  | _, _, .nil => rfl
  | _, _, .cons o ho h t => by rw [List.length_cons, List.length_cons, pl_len t]
/-! ### Heads with their names -/
def nmd (P : List (List D)) : List Hd → Nat → List Hd
  | [], _ => []
  | h :: t, i => { h with name := cellI P i 0 } :: nmd P t (i + 1)
theorem nmd_app (P : List (List D)) : ∀ (a b : List Hd) (i : Nat), nmd P (a ++ b) i = nmd P a i ++ nmd P b (i + a.length)
  | [], b, i => rfl
  | h :: t, b, i => by rw [List.cons_append, nmd, nmd_app P t b, nmd, List.cons_append, List.length_cons, show i + 1 + t.length = i + (t.length + 1) from by omega]
theorem nmd_len (P : List (List D)) : ∀ (a : List Hd) (i : Nat), (nmd P a i).length = a.length
  | [], i => rfl
  | h :: t, i => by rw [nmd, List.length_cons, nmd_len P t, List.length_cons]
theorem headsF_nmd {P : List (List D)} : ∀ (hs : List Hd) (i : Nat), (∀ h ∈ nmd P hs i, h.okS = true) → headsF P (hs.map Hd.row) i = ((nmd P hs i).map Hd.b).flatten
  | [], i, _ => rfl
  | h :: t, i, hk => by
    have h0 := hk { h with name := cellI P i 0 } List.mem_cons_self
    have e0 : hdOf h.row (cellI P i 0) = { h with name := cellI P i 0 } := rfl
    rw [List.map_cons, headsF, headsF_nmd t (i + 1) (fun q hq => hk q (List.mem_cons_of_mem _ hq)), e0, hdB, if_pos (hd_ok1 h0)]; rfl
/-- What is known of a head of a part. -/
def Pt.okS (p : Pt) : Bool := f4 p.hd.type && s8 p.hd.flags && s8 p.hd.addr && s8 p.hd.size && f4 p.hd.link && f4 p.hd.info && s8 p.hd.align && s8 p.hd.entry
theorem nmd_ok {b P : List (List D)} (hP : ∀ i, 0 ≤ cellI P i 0 ∧ cellI P i 0 ≤ 65535) (hb : b.length ≤ 1048576) : ∀ {ps : List Pt} {hs : List Hd} (i : Nat), Pl b ps hs → (∀ p ∈ ps, p.okS = true) → ∀ h ∈ nmd P hs i, h.okS = true
  | _, _, i, .nil, _, h, hh => by cases hh
  | _, _, i, .cons (p := p) (hs := hs) o ho hx t, hk, h, hh => by
    rcases List.mem_cons.1 hh with rfl | hh
    · have hl := has_le hx
      have h1 := hk p List.mem_cons_self
      have h2 := hP i
      simp only [Pt.okS, Bool.and_eq_true] at h1
      obtain ⟨⟨⟨⟨⟨⟨⟨k1, k2⟩, k3⟩, k4⟩, k5⟩, k6⟩, k7⟩, k8⟩ := h1
      refine andT (andT (andT (andT (andT (andT (andT (andT (andT (andT (decT h2.1) (decT (show cellI P i 0 < 4294967296 by omega))) k1) k2) k3) (andT (decT (show (0 : Int) ≤ (o : Nat) by omega)) (decT (show ((o : Nat) : Int) < 9223372036854775808 by omega)))) ?_) k5) k6) k7) k8
      show s8 (if p.hd.type = 8 then p.hd.size else (p.x.length : Nat)) = true
      split
      · exact k4
      · exact andT (decT (by omega)) (decT (by omega))
    · exact nmd_ok hP hb (i + 1) t (fun q hq => hk q (List.mem_cons_of_mem _ hq)) h hh
/-! ### All heads are read -/
theorem wrap_at {p i : Nat} (h : p + 64 * i ≤ 1048576) : IntKind.wrap .i64 (((p : Nat) : Int) + IntKind.wrap .i64 (((i : Nat) : Int) * 64)) = ((p + 64 * i : Nat) : Int) := by
  rw [wrap64 (n := (i : Int) * 64) (by omega) (by omega), wrap64 (by omega) (by omega)]; omega
theorem all_go {b : List (List D)} {p : Nat} (hb : b.length ≤ 1048576) : ∀ (hs : List Hd) (i : Nat) (r : Rd), r.b = b → r.e = 0 → (∀ h ∈ hs, h.okS = true) → Has b (p + 64 * i) (hs.map Hd.b).flatten → allGo (p : Nat) hs.length i r = { r with h := r.h ++ hs.map Hd.row }
  | [], i, r, _, _, _, _ => by cases r; simp [allGo]
  | h :: t, i, r, rb, re, hk, hh => by
    have h0 := hk h List.mem_cons_self
    have h1 : Has b (p + 64 * i) h.b := has_head (y := (t.map Hd.b).flatten) hh
    have h2 : Has b (p + 64 * (i + 1)) (t.map Hd.b).flatten := by
      have := has_tail (x := h.b) (y := (t.map Hd.b).flatten) hh (hd_len h)
      rw [show p + 64 * (i + 1) = p + 64 * i + 64 from by omega]; exact this
    have hl := has_le h1
    rw [hd_len] at hl
    have e1 : cutV b ((p + 64 * i : Nat) : Int) 64 0 = h.b := by
      have := has_cutV h1
      rw [hd_len] at this
      exact this
    have e2 : cutE b ((p + 64 * i : Nat) : Int) 64 0 = 0 := by
      have := has_cutE h1
      rw [hd_len] at this
      exact this
    have ex : allX r.b (p : Nat) i r.e = h.b := by rw [allX, wrap_at (by omega), rb, re, e1]
    have eo : allOne (p : Nat) i r = { r with h := r.h ++ [h.row] } := by
      rw [allOne, ex, (hd_rv h0).1, (hd_rv h0).2, if_neg (by simp), wrap_at (by omega), rb, re, e2]
    rw [List.length_cons, allGo, if_pos re, eo, all_go hb t (i + 1) { r with h := r.h ++ [h.row] } rb re (fun q hq => hk q (List.mem_cons_of_mem _ hq)) h2]
    simp only [List.append_assoc, List.map_cons, List.cons_append, List.nil_append]
end Go.Proofs.Ytkcopbnaleiocaa.Ev
