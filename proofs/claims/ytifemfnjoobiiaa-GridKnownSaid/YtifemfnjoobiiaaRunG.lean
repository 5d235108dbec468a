/- Each operation of the program does what this session's small operation says: places, slices, maps, append. No statement of the program's is proved here. -/
import Derived.Test.YtifemfnjoobiiaaRunE
namespace Go.Proofs.Ytifemfnjoobiiaa.Run
open Go Go.RowKit
set_option linter.unusedVariables false
set_option linter.unusedSimpArgs false
section
variable {P : Program} {idf : FuncId → Bool}
theorem g_un {φ : Loc} {M : Mem} {w : World} (h : Rep P idf φ M w) {op : UnOp} {x x' v : Value} (hx : VRel φ x x') (hv : unV op x = some v) : Gives P idf (Op.unary op x') φ M w v M := by
 unfold unV at hv
 split at hv
 ·cases hx
  split at hv
  ·cases hv; exact Gives.same h (by simp [Op.unary, Op.intArith]) (.int _ _)
  ·cases hv; exact Gives.same h (by simp [Op.unary, Op.intBits]) (.int _ _)
  ·cases hv
 ·cases hx
  split at hv
  ·cases hv; exact Gives.same h (by simp [Op.unary]) (.bool _)
  ·cases hv
 ·cases hv
theorem g_convI {φ : Loc} {M : Mem} {w : World} (h : Rep P idf φ M w) {s d : TypeId} {ks k : IntKind} (hs : P.underlying s = some (.int ks)) (hd : P.underlying d = some (.int k)) {j : IntKind} {n : Int} {x' : Value} (hx : VRel φ (.int j n) x') :
  Gives P idf (convert s d x') φ M w (.int k (k.wrap n)) M := by
 cases hx
 exact Gives.same h (by simp [convert, run_underlying hs, run_underlying hd, Conv.intToInt]) (.int _ _)
theorem g_convS {φ : Loc} {M : Mem} {w : World} (h : Rep P idf φ M w) {s d : TypeId} (hs : P.underlying s = some .string) (hd : P.underlying d = some .string) {n : ByteArray} {x' : Value} (hx : VRel φ (.string n) x') :
  Gives P idf (convert s d x') φ M w (.string n) M := by
 cases hx
 exact Gives.same h (by simp [convert, run_underlying hs, run_underlying hd]) (.str _)
theorem run_seenAt (w : World) {c off : Nat} {c' : Array Value} {t : TypeId} {fr : Nat × Nat} (hg : w.heap[c]? = some (.cells c' t fr)) : (Conv.seenAt ⟨c, off, none⟩).run P w = .ok ⟨c, off, none⟩ w := by
 simp [Conv.seenAt, viewAt, World.shape?, hg]
theorem g_ptrU {φ : Loc} {M : Mem} {w : World} (h : Rep P idf φ M w) {s d e : TypeId} {n : Nat} (hs : P.underlying s = some (.pointer e)) (hd : P.underlying d = some .unsafePointer) (hn : szOf P e = some n) (h0 : n ≠ 0) {b off : Nat} {x' : Value}
  (hx : VRel φ (.pointer (some ⟨b, off, none⟩)) x') {c : List Value} {ty : TypeId} {wr : Bool} (hg : M.get b = some (.cells c ty wr)) (hl : off < c.length) : Gives P idf (convert s d x') φ M w (.pointer (some ⟨b, off, none⟩)) M := by
 cases hx with
 | ptr _ _ k K hb =>
  obtain ⟨c', fr, g2, hle, hr, ho, hw, hK⟩ := h.cells hb hg
  have hlt : ¬ c'.size ≤ off := by omega
  refine Gives.same h (v' := .pointer (some ⟨k, off, none⟩)) ?_ (.ptr _ _ _ _ hb)
  simp [convert, run_underlying hs, run_underlying hd, Conv.unsafePointer, run_seenAt w g2, cellsIn, World.shape?, g2, run_sz hn w, h0, hlt]
theorem rowAt_self {p : Program} {fits : TypeId → Bool} {d : Nat} {e : TypeId} {s : Nat} (hs : p.cellsOf e = s) (h0 : s ≠ 0) (hf : fits e = true) {count off n : Nat} (hoff : off % s = 0) (hle : off / s + n ≤ count) : rowAt p fits (d + 1) e count off n = true := by
 simp [rowAt, hs, h0, hoff, hle, hf]
theorem depth_pos (p : Program) : ∃ d, p.depth = d + 1 + 1 := ⟨2 * (p.types.size + Made.depth), rfl⟩
theorem liesAt_self {p : Program} {u : TypeId} {s : Nat} (hs : p.cellsOf u = s) (h0 : s ≠ 0) {count off n : Nat} (hoff : off % s = 0) (hle : off / s + n ≤ count) : liesAt p p.depth u count off u n = true := by
 obtain ⟨d, hd⟩ := depth_pos p
 have hfit : sameLayout p p.depth u u = true := by rw [hd]; simp [sameLayout]
 have := rowAt_self (p := p) (fits := fun t => sameLayout p p.depth t u) (d := d + 1) hs h0 hfit hoff hle
 rw [← hd] at this
 rw [hd]
 simp only [liesAt]
 rw [this]
 rfl
theorem g_castP {φ : Loc} {M : Mem} {w : World} (h : Rep P idf φ M w) {s d u : TypeId} {n : Nat} (hs : P.underlying s = some .unsafePointer) (hd : P.underlying d = some (.pointer u)) (hn : szOf P u = some n) (h0 : n ≠ 0) {b : Nat} {x' : Value}
  (hx : VRel φ (.pointer (some ⟨b, 0, none⟩)) x') {c : List Value} {wr : Bool} (hg : M.get b = some (.cells c u wr)) (hl : n ≤ c.length) : Gives P idf (convert s d x') φ M w (.pointer (some ⟨b, 0, none⟩)) M := by
 cases hx with
 | ptr _ _ k K hb =>
  obtain ⟨c', fr, g2, hle, hr, ho, hw, hK⟩ := h.cells hb hg
  have hcnt : 0 / n + 1 ≤ c'.size / n := by
   have : 1 ≤ c'.size / n := (Nat.le_div_iff_mul_le (by omega)).2 (by omega)
   simpa using this
  have hl := liesAt_self (p := P) (u := u) (cellsOf_sz hn) h0 (count := c'.size / n) (off := 0) (n := 1) (by simp) hcnt
  have hvar : (variablesAt ⟨k, 0, none⟩ u 1).run P w = .ok true w := by
   simp [variablesAt, World.shape?, g2, cellsOf_sz hn, hl]
  refine Gives.same h (v' := .pointer (some ⟨k, 0, none⟩)) ?_ (.ptr _ _ _ _ hb)
  simp [convert, run_underlying hs, run_underlying hd, Conv.unsafePointer, run_seenAt w g2, run_sz hn w, h0, hvar]
inductive ORl (φ : Loc) : Option Value → Option Value → Prop
 | none : ORl φ none none
 | some {x y : Value} (h : VRel φ x y) : ORl φ (some x) (some y)
theorem boundV_int {x : Value} {y n : Nat} (h : boundV x y = some n) : ∃ k i, x = .int k i ∧ 0 ≤ i ∧ i ≤ y ∧ i.toNat = n := by
 unfold boundV at h
 split at h
 ·split at h
  ·rename_i hc; cases h; exact ⟨_, _, rfl, hc.1, hc.2, rfl⟩
  ·cases h
 ·cases h
theorem run_bound {φ : Loc} {x x' : Value} (hx : VRel φ x x') {y y' n : Nat} (h : boundV x y = some n) (hy : y ≤ y') (code : BoundsCode) (w : World) : (Instr.sliceBound x' y' code).run P w = .ok n w := by
 obtain ⟨k, i, rfl, h0, h1, rfl⟩ := boundV_int h
 cases hx
 have h2 : i ≤ (y' : Int) := by omega
 simp [Instr.sliceBound, asIntOf, h0, h2]
theorem run_bounds {φ : Loc} (isS : Bool) {len cap cap' : Nat} (hcc : cap ≤ cap') (hlc : len ≤ cap) {lo hi mx lo' hi' mx' : Option Value} (hlo : ORl φ lo lo') (hhi : ORl φ hi hi') (hmx : ORl φ mx mx') {l h m : Nat} (hb : bounds len cap lo hi mx = some (l, h, m)) (w : World) :
  (Instr.sliceBounds isS len cap' lo' hi' mx').run P w = .ok (l, h, if mx.isSome then m else cap') w ∧ l ≤ h ∧ h ≤ m ∧ m ≤ cap ∧ (mx = none → m = cap) := by
 unfold bounds at hb
 simp only [Option.bind_eq_some_iff] at hb
 obtain ⟨m', hm, h', hh, l', hl, hb⟩ := hb
 split at hb
 ·cases hb
 ·rename_i hc
  simp only [Option.some.injEq, Prod.mk.injEq] at hb
  obtain ⟨rfl, rfl, rfl⟩ := hb
  cases hmx with
  | none =>
   simp only [optBound] at hm
   cases hm
   cases hhi with
   | none =>
    simp only [optBound] at hh
    cases hh
    cases hlo with
    | none => simp only [optBound] at hl; cases hl; exact ⟨by simp [Instr.sliceBounds], by omega, hlc, Nat.le_refl _, fun _ => rfl⟩
    | some hx =>
     simp only [optBound] at hl
     obtain ⟨k, i, rfl, h0, h1, rfl⟩ := boundV_int hl
     exact ⟨by simp [Instr.sliceBounds, run_bound hx hl (Nat.le_refl _)], by omega, hlc, Nat.le_refl _, fun _ => rfl⟩
   | some hy =>
    simp only [optBound] at hh
    obtain ⟨k2, i2, e2, g0, g1, g2⟩ := boundV_int hh
    cases hlo with
    | none =>
     simp only [optBound] at hl; cases hl
     exact ⟨by cases isS <;> simp [Instr.sliceBounds, run_bound hy hh hcc], by omega, by omega, Nat.le_refl _, fun _ => rfl⟩
    | some hx =>
     simp only [optBound] at hl
     obtain ⟨k, i, e1, h0, h1, h2⟩ := boundV_int hl
     exact ⟨by cases isS <;> simp [Instr.sliceBounds, run_bound hy hh hcc, run_bound hx hl (Nat.le_refl _)], by omega, by omega, Nat.le_refl _, fun _ => rfl⟩
  | some hz =>
   simp only [optBound] at hm
   obtain ⟨k3, i3, e3, m0, m1, m2⟩ := boundV_int hm
   cases hhi with
   | none => simp at hc
   | some hy =>
    simp only [optBound] at hh
    obtain ⟨k2, i2, e2, g0, g1, g2⟩ := boundV_int hh
    cases hlo with
    | none =>
     simp only [optBound] at hl; cases hl
     exact ⟨by cases isS <;> simp [Instr.sliceBounds, run_bound hz hm hcc, run_bound hy hh (Nat.le_refl _)], by omega, by omega, by omega, by simp⟩
    | some hx =>
     simp only [optBound] at hl
     obtain ⟨k, i, e1, h0, h1, h2⟩ := boundV_int hl
     exact ⟨by cases isS <;> simp [Instr.sliceBounds, run_bound hz hm hcc, run_bound hy hh (Nat.le_refl _), run_bound hx hl (Nat.le_refl _)], by omega, by omega, by omega, by simp⟩
theorem g_sliceS {φ : Loc} {M : Mem} {w : World} (hR : Rep P idf φ M w) {t : TypeId} (hu : P.underlying t = some .string) {s : ByteArray} {x' : Value} (hx : VRel φ (.string s) x') {lo hi lo' hi' : Option Value} (hlo : ORl φ lo lo') (hhi : ORl φ hi hi')
  {l h m : Nat} (hb : bounds s.size s.size lo hi none = some (l, h, m)) : Gives P idf (Instr.sliceAt t x' lo' hi' none) φ M w (.string (s.extract l h)) M := by
 cases hx
 obtain ⟨h1, _⟩ := run_bounds (P := P) false (Nat.le_refl _) (Nat.le_refl _) hlo hhi (.none : ORl φ none none) hb w
 exact Gives.same hR (by simp [Instr.sliceAt, Instr.slice, run_underlying hu, h1]) (.str _)
theorem g_sliceA {φ : Loc} {M : Mem} {w : World} (hR : Rep P idf φ M w) {t e : TypeId} {n s : Nat} (hu : P.underlying t = some (.array n e) ∨ ∃ arr, P.underlying t = some (.pointer arr) ∧ P.underlying arr = some (.array n e)) (hs : szOf P e = some s)
  {b off : Nat} {x' : Value} (hx : VRel φ (.pointer (some ⟨b, off, none⟩)) x') {lo hi mx lo' hi' mx' : Option Value} (hlo : ORl φ lo lo') (hhi : ORl φ hi hi') (hmx : ORl φ mx mx') {l h m : Nat} (hb : bounds n n lo hi mx = some (l, h, m)) :
  Gives P idf (Instr.sliceAt t x' lo' hi' mx') φ M w (.slice (some ⟨b, if m = l then off else off + l * s, some 0⟩) (h - l) (m - l)) M := by
 cases hx with
 | ptr _ _ c K hbb =>
  obtain ⟨h1, h2, h3, h4, h5⟩ := run_bounds (P := P) false (Nat.le_refl _) (Nat.le_refl _) hlo hhi hmx hb w
  have hm : (if mx.isSome = true then m else n) = m := by
   cases mx with
   | none => simp [h5 rfl]
   | some _ => rfl
  rw [hm] at h1
  refine Gives.same hR (v' := .slice (some ⟨c, if m = l then off else off + l * s, none⟩) (h - l) (m - l)) ?_ (.slx _ _ _ _ _ _ _ hbb (by omega))
  have e1 : (if m = l then (⟨c, off, none⟩ : Addr) else (⟨c, off, none⟩ : Addr).add (l * s)) = ⟨c, if m = l then off else off + l * s, none⟩ := by
   split
   ·rfl
   ·exact addr_add c off _
  rcases hu with hu | ⟨arr, hu, hu2⟩
  ·simp [Instr.sliceAt, Instr.sureAddr, run_underlying hu, h1, run_sz hs w, e1]
  ·simp [Instr.sliceAt, Instr.slice, asAddr, run_underlying hu, run_underlying hu2, h1, run_sz hs w, e1]
theorem g_sliceL {φ : Loc} {M : Mem} {w : World} (hR : Rep P idf φ M w) {t e : TypeId} {s : Nat} (hu : P.underlying t = some (.slice e)) (hs : szOf P e = some s) (h0 : s ≠ 0)
  {a : Option Addr} {len cap : Nat} {x' : Value} (hx : VRel φ (.slice a len cap) x') {lo hi mx lo' hi' mx' : Option Value} (hlo : ORl φ lo lo') (hhi : ORl φ hi hi') (hmx : ORl φ mx mx') {l h m : Nat} (hb : bounds len cap lo hi mx = some (l, h, m))
  {v : Value} (hv : sliceV s len l h m mx.isSome a = some v) : Gives P idf (Instr.sliceAt t x' lo' hi' mx') φ M w v M := by
 unfold sliceV at hv
 cases hx with
 | sl0 =>
  obtain ⟨h1, h2, h3, h4, h5⟩ := run_bounds (P := P) true (Nat.le_refl _) (Nat.le_refl _) hlo hhi hmx hb w
  obtain rfl : m = 0 := by omega
  obtain rfl : h = 0 := by omega
  obtain rfl : l = 0 := by omega
  simp only at hv
  cases hv
  refine Gives.same hR (v' := .slice none 0 0) ?_ .sl0
  simp [Instr.sliceAt, Instr.slice, run_underlying hu, h1, run_sz hs w]
 | slx b off c K sp _ _ hbb hl =>
  obtain ⟨h1, h2, h3, h4, h5⟩ := run_bounds (P := P) true (Nat.le_refl _) hl hlo hhi hmx hb w
  have hm : (if mx.isSome = true then m else cap) = m := by
   cases mx with
   | none => simp [h5 rfl]
   | some _ => rfl
  rw [hm] at h1
  simp only [Option.isNone_some, Bool.false_eq_true, false_and, if_false, Option.isSome_some, true_or, if_true] at hv
  by_cases he : m = l
  ·rw [if_pos he] at hv
   cases hv
   have e1 : h - l = 0 := by omega
   have e2 : m - l = 0 := by omega
   refine Gives.same hR (v' := .slice (some ⟨c, off, none⟩) 0 0) ?_ (.slx _ _ _ _ _ _ _ hbb (Nat.le_refl _))
   simp [Instr.sliceAt, Instr.slice, run_underlying hu, h1, run_sz hs w, he, e1]
  ·rw [if_neg he] at hv
   cases hv
   refine Gives.same hR (v' := .slice (some ⟨c, off + l * s, none⟩) (h - l) (m - l)) ?_ ?_
   ·simp [Instr.sliceAt, Instr.slice, run_underlying hu, h1, run_sz hs w, he, addr_add]
   ·cases mx <;> exact .slx _ _ _ _ _ _ _ hbb (by omega)
 | slg b off c K _ _ cap' hbb hl hcc hK =>
  obtain ⟨h1, h2, h3, h4, h5⟩ := run_bounds (P := P) true hcc hl hlo hhi hmx hb w
  simp only [Option.isNone_none, true_and, Option.isSome_none, Bool.false_eq_true, false_or] at hv
  split at hv
  ·cases hv
  ·rename_i hhl
   cases hmx with
   | none =>
    have hmc := h5 rfl
    subst hmc
    simp only [Option.isSome_none, Bool.false_eq_true, if_false] at hv h1
    by_cases he : m = l
    ·rw [if_pos he] at hv
     cases hv
     have e1 : h - l = 0 := by omega
     refine Gives.same hR (v' := .slice (some (if cap' = l then ⟨c, off, none⟩ else ⟨c, off + l * s, none⟩)) 0 (cap' - l)) ?_ (.hole _ _ _)
     by_cases hc : cap' = l
     ·subst hc
      simp [Instr.sliceAt, Instr.slice, run_underlying hu, h1, run_sz hs w, e1]
     ·simp [Instr.sliceAt, Instr.slice, run_underlying hu, h1, run_sz hs w, hc, e1, addr_add]
    ·rw [if_neg he] at hv
     cases hv
     have he' : ¬ cap' = l := by omega
     refine Gives.same hR (v' := .slice (some ⟨c, off + l * s, none⟩) (h - l) (cap' - l)) ?_ (.slg _ _ _ _ _ _ _ hbb (by omega) (by omega) ?_)
     ·simp [Instr.sliceAt, Instr.slice, run_underlying hu, h1, run_sz hs w, he', addr_add]
     ·intro ho
      have := hK (by omega)
      omega
   | some hz =>
    simp only [Option.isSome_some, if_true] at hv h1
    by_cases he : m = l
    ·rw [if_pos he] at hv
     cases hv
     have e1 : h - l = 0 := by omega
     refine Gives.same hR (v' := .slice (some ⟨c, off, none⟩) 0 0) ?_ (.slx _ _ _ _ _ _ _ hbb (Nat.le_refl _))
     simp [Instr.sliceAt, Instr.slice, run_underlying hu, h1, run_sz hs w, he, e1]
    ·rw [if_neg he] at hv
     cases hv
     refine Gives.same hR (v' := .slice (some ⟨c, off + l * s, none⟩) (h - l) (m - l)) ?_ (.slx _ _ _ _ _ _ _ hbb (by omega))
     simp [Instr.sliceAt, Instr.slice, run_underlying hu, h1, run_sz hs w, he, addr_add]
theorem g_fieldAddr {φ : Loc} {M : Mem} {w : World} (h : Rep P idf φ M w) {s : TypeId} {fs : Array Field} {i : Nat} {f : Field} {n : Nat} (hu : P.underlying s = some (.struct fs)) (hf : fs[i]? = some f) (hn : szOf P f.type = some n) (h0 : n ≠ 0)
  {b off : Nat} {x' : Value} (hx : VRel φ (.pointer (some ⟨b, off, none⟩)) x') : Gives P idf (Instr.fieldAt s x' i) φ M w (.pointer (some ⟨b, off + f.offset, none⟩)) M := by
 cases hx with
 | ptr _ _ c K hb =>
  refine Gives.same h (v' := .pointer (some ⟨c, off + f.offset, none⟩)) ?_ (.ptr _ _ _ _ hb)
  simp [Instr.fieldAt, run_underlying hu, hf, Instr.sureAddr, fieldPlace, run_sz hn w, h0, addr_add]
theorem g_field {φ : Loc} {M : Mem} {w : World} (h : Rep P idf φ M w) {s : TypeId} {fs : Array Field} {i : Nat} {f : Field} {n : Option Nat} (hu : P.underlying s = some (.struct fs)) (hf : fs[i]? = some f) (hn : aggOf P f.type = some n)
  {c : Array Value} {x' : Value} (hx : VRel φ (.agg c) x') {v : Value} (hv : partV n c.toList f.offset = some v) : Gives P idf (Instr.field s x' i) φ M w v M := by
 cases hx with
 | agg _ c' ha ia ho =>
  obtain ⟨φ', v', w', h1, h2, h3, h4⟩ := g_part h hn (.agg c c' ha ia ho) hv
  exact ⟨φ', v', w', by simp [Instr.field, run_underlying hu, hf, asAgg, h1], h2, h3, h4⟩
theorem g_addrA {φ : Loc} {M : Mem} {w : World} (h : Rep P idf φ M w) {t e : TypeId} {n s : Nat} (hu : P.underlying t = some (.array n e)) (hs : szOf P e = some s) {b off : Nat} {x' i' : Value} {k : IntKind} {i : Int}
  (hx : VRel φ (.pointer (some ⟨b, off, none⟩)) x') (hi : VRel φ (.int k i) i') (h0 : 0 ≤ i) (h1 : i < n) : Gives P idf (Instr.indexAt t x' i') φ M w (.pointer (some ⟨b, off + i.toNat * s, none⟩)) M := by
 cases hi
 cases hx with
 | ptr _ _ c K hb =>
  refine Gives.same h (v' := .pointer (some ⟨c, off + i.toNat * s, none⟩)) ?_ (.ptr _ _ _ _ hb)
  simp [Instr.indexAt, asIntOf, run_underlying hu, Instr.sureAddr, h0, h1, run_sz hs w, addr_add]
theorem g_addrL {φ : Loc} {M : Mem} {w : World} (h : Rep P idf φ M w) {t e : TypeId} {s : Nat} (hu : P.underlying t = some (.slice e)) (hs : szOf P e = some s) {a : Addr} {len cap : Nat} {x' i' : Value} {k : IntKind} {i : Int}
  (hx : VRel φ (.slice (some a) len cap) x') (hi : VRel φ (.int k i) i') (h0 : 0 ≤ i) (h1 : i < len) : Gives P idf (Instr.indexAt t x' i') φ M w (.pointer (some ⟨a.block, a.off + i.toNat * s, none⟩)) M := by
 cases hi
 cases hx with
 | slx b off c K sp _ _ hb hl =>
  refine Gives.same h (v' := .pointer (some ⟨c, off + i.toNat * s, none⟩)) ?_ (.ptr _ _ _ _ hb)
  simp [Instr.indexAt, asIntOf, run_underlying hu, h0, h1, run_sz hs w, addr_add]
 | slg b off c K _ _ cap' hb hl hcc hK =>
  refine Gives.same h (v' := .pointer (some ⟨c, off + i.toNat * s, none⟩)) ?_ (.ptr _ _ _ _ hb)
  simp [Instr.indexAt, asIntOf, run_underlying hu, h0, h1, run_sz hs w, addr_add]
theorem g_idxA {φ : Loc} {M : Mem} {w : World} (h : Rep P idf φ M w) {t e : TypeId} {len s : Nat} {n : Option Nat} (hu : P.underlying t = some (.array len e)) (hs : szOf P e = some s) (hn : aggOf P e = some n) {c : Array Value} {x' i' : Value} {k : IntKind} {i : Int}
  (hx : VRel φ (.agg c) x') (hi : VRel φ (.int k i) i') (h0 : 0 ≤ i) (h1 : i < len) {v : Value} (hv : partV n c.toList (i.toNat * s) = some v) : Gives P idf (Instr.index t x' i') φ M w v M := by
 cases hi
 cases hx with
 | agg _ c' ha ia ho =>
  obtain ⟨φ', v', w', g1, g2, g3, g4⟩ := g_part h hn (.agg c c' ha ia ho) hv
  exact ⟨φ', v', w', by simp [Instr.index, asIntOf, run_underlying hu, h0, h1, run_sz hs w, g1], g2, g3, g4⟩
theorem g_idxS {φ : Loc} {M : Mem} {w : World} (h : Rep P idf φ M w) {t : TypeId} (hu : P.underlying t = some .string) {s : ByteArray} {x' i' : Value} {k : IntKind} {i : Int}
  (hx : VRel φ (.string s) x') (hi : VRel φ (.int k i) i') (h0 : 0 ≤ i) {b : UInt8} (hb : s[i.toNat]? = some b) : Gives P idf (Instr.index t x' i') φ M w (.int .u8 b.toNat) M := by
 cases hi
 cases hx
 exact Gives.same h (by simp [Instr.index, asIntOf, run_underlying hu, h0, hb]) (.int _ _)
theorem g_extract {φ : Loc} {M : Mem} {w : World} (h : Rep P idf φ M w) {vs : Array Value} {x' : Value} (hx : VRel φ (.tuple vs) x') {i : Nat} {v : Value} (hv : vs.toList[i]? = some v) : Gives P idf (Instr.extract x' i) φ M w v M := by
 cases hx with
 | tuple _ vs' ha ia =>
  obtain ⟨y, h1, h2⟩ := (LRel.of_arr ha ia).get hv
  have h1' : vs'[i]? = some y := by simpa using h1
  exact Gives.same h (v' := y) (by simp [Instr.extract, h1']) h2
end
end Go.Proofs.Ytifemfnjoobiiaa.Run
