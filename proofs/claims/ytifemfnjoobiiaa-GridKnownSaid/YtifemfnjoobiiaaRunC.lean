/- Each operation of the program does what this session's small operation says. No statement of the program's is proved here. -/
import Derived.Test.YtifemfnjoobiiaaRunB
import Derived.Deep.AppendSrc
import Derived.Deep.Upon
import Derived.Great.BuildSlice
import Derived.Laws.MakeOwn
namespace Go.Proofs.Ytifemfnjoobiiaa.Run
open Go Go.RowKit
set_option linter.unusedVariables false
set_option linter.unusedSimpArgs false
section
variable {P : Program} {idf : FuncId → Bool}
theorem sz_info {t : TypeId} {n : Nat} (h : szOf P t = some n) : ∃ i, P.info? t = some i ∧ i.size = n := by
 unfold szOf at h
 cases hi : P.info? t with
 | none => simp [hi] at h
 | some i => exact ⟨i, rfl, by simpa [hi] using h⟩
theorem run_sz {t : TypeId} {n : Nat} (h : szOf P t = some n) (w : World) : (sizeOf t).run P w = .ok n w := by
 obtain ⟨i, hi, rfl⟩ := sz_info h
 simp [sizeOf, typeInfo, hi]
theorem cellsOf_sz {t : TypeId} {n : Nat} (h : szOf P t = some n) : P.cellsOf t = n := by
 obtain ⟨i, hi, rfl⟩ := sz_info h
 simp [Program.cellsOf, hi]
theorem run_agg_some {t : TypeId} {n : Nat} (h : aggOf P t = some (some n)) (w : World) : (isAgg t).run P w = .ok true w ∧ (sizeOf t).run P w = .ok n w := by
 unfold aggOf at h
 split at h
 ·rename_i fs hu
  have hs : szOf P t = some n := by simpa using h
  exact ⟨by simp [isAgg, run_underlying hu], run_sz hs w⟩
 ·rename_i k e hu
  have hs : szOf P t = some n := by simpa using h
  exact ⟨by simp [isAgg, run_underlying hu], run_sz hs w⟩
 ·simp at h
 ·simp at h
theorem run_agg_none {t : TypeId} (h : aggOf P t = some none) (w : World) : (isAgg t).run P w = .ok false w := by
 unfold aggOf at h
 split at h
 ·simp at h
 ·simp at h
 ·rename_i d h1 h2 hu
  unfold isAgg
  rw [Sem.run_bind, run_underlying hu w]
  cases d <;> simp_all
 ·simp at h
theorem zero_info {t : TypeId} {z : Value} (h : zeroOf P t = some z) : ∃ i, P.info? t = some i ∧ i.zero = some z ∧ okC z = true := by
 unfold zeroOf at h
 cases hi : P.info? t with
 | none => simp [hi] at h
 | some i =>
  cases hz : i.zero with
  | none => simp [hi, hz] at h
  | some y =>
   simp only [hi, hz, Option.bind_some] at h
   split at h
   ·rename_i hk; cases h; exact ⟨i, rfl, hz, hk⟩
   ·cases h
theorem run_zero {t : TypeId} {z : Value} (h : zeroOf P t = some z) (w : World) : (zeroValue t).run P w = .ok z w := by
 obtain ⟨i, hi, hz, _⟩ := zero_info h
 simp [zeroValue, typeInfo, hi, hz]
theorem elemZ_info {e : TypeId} {s : Nat} {z : List Value} (h : elemZ P e = some (s, z)) : ∃ i y, P.info? e = some i ∧ i.zero = some y ∧ okC y = true ∧ i.size = s ∧ s ≠ 0 ∧ y.cells.toList = z ∧ z.length = s := by
 unfold elemZ at h
 cases hs : szOf P e with
 | none => simp [hs] at h
 | some s' =>
  cases hz : zeroOf P e with
  | none => simp [hs, hz] at h
  | some y =>
   simp only [hs, hz, Option.bind_some] at h
   split at h
   ·rename_i hc
    simp only [Option.some.injEq, Prod.mk.injEq] at h
    obtain ⟨rfl, rfl⟩ := h
    obtain ⟨i, hi, hsz⟩ := sz_info hs
    obtain ⟨i', hi', hz', hk⟩ := zero_info hz
    rw [hi] at hi'; cases hi'
    exact ⟨i, y, hi, hz', hk, hsz, hc.1, rfl, by simpa using hc.2⟩
   ·cases h
theorem cells_okS {z : Value} (h : okC z = true) : z.cells.toList.all okS = true := by
 unfold okC at h
 split at h
 ·exact h
 ·rename_i v hne
  cases z <;> first | (exact absurd rfl (hne _)) | (simpa [Value.cells] using h)
theorem all_okS {l : List Value} (h : l.all okS = true) : l.all Value.oneCell' = true := by
 simp only [List.all_eq_true] at h ⊢
 exact fun x hx => okS_oneCell (h x hx)
variable (P idf)
def Gives (s : Sem Value) (φ : Loc) (M : Mem) (w : World) (v : Value) (M' : Mem) : Prop :=
 ∃ φ' v' w', s.run P w = .ok v' w' ∧ VRel φ' v v' ∧ Rep P idf φ' M' w' ∧ Stp φ M w φ' M' w'
variable {P idf}
theorem Gives.same {s : Sem Value} {φ : Loc} {M : Mem} {w : World} {v v' : Value} (h : Rep P idf φ M w) (hr : s.run P w = .ok v' w) (hv : VRel φ v v') : Gives P idf s φ M w v M :=
 ⟨φ, v', w, hr, hv, h, Stp.refl _ _ _⟩
theorem g_new {φ : Loc} {M : Mem} {w : World} (h : Rep P idf φ M w) {t : TypeId} {c : List Value} {c' : Array Value} (hc : LRel φ c c'.toList) (ho : c.all Value.oneCell' = true) :
  Rep P idf (φ.add M.size (w.heap.size, 0)) (M.push (.cells c t true)) (w.alloc (.cells c' t)) ∧ Stp φ M w (φ.add M.size (w.heap.size, 0)) (M.push (.cells c t true)) (w.alloc (.cells c' t)) := by
 have hl : c.length = c'.size := by simpa using hc.length
 refine h.alloc (.cells c t true c' (0, 0) (by omega) ?_ ho (fun _ => rfl) (by simp))
 have : c'.toList.take c.length = c'.toList := List.take_of_length_le (by simp; omega)
 rw [this]
 exact hc.mono (Loc.add_ext h.none_size)
theorem g_box {φ : Loc} {M : Mem} {w : World} (h : Rep P idf φ M w) {t : TypeId} {x x' : Value} (hx : VRel φ x x') (ho : notTup x = true) :
  Gives P idf (Instr.box t x') φ M w (allocV M t x.cells.toList).1 (allocV M t x.cells.toList).2 := by
 obtain ⟨h1, h2⟩ := g_new (t := t) h hx.cells (hx.cells_one ho)
 exact ⟨_, .pointer (some ⟨w.heap.size, 0, none⟩), _, by simp [Instr.box, newVar, newRow], .ptr _ _ _ 0 (by simp [Loc.add]), h1, h2⟩
theorem g_alloc {φ : Loc} {M : Mem} {w : World} (h : Rep P idf φ M w) {t : TypeId} {z : Value} (hz : zeroOf P t = some z) :
  Gives P idf (Instr.alloc t true (.tuple #[])) φ M w (allocV M t z.cells.toList).1 (allocV M t z.cells.toList).2 := by
 obtain ⟨i, hi, hz', hk⟩ := zero_info hz
 obtain ⟨h1, h2⟩ := g_new (t := t) h (VRel.okC (φ := φ) hk).cells (all_okS (cells_okS hk))
 exact ⟨_, .pointer (some ⟨w.heap.size, 0, none⟩), _, by simp [Instr.alloc, run_zero hz, newVar, newRow], .ptr _ _ _ 0 (by simp [Loc.add]), h1, h2⟩
theorem fold_splice (off : Nat) : ∀ (vs : List Value) (k : Nat) (c : Array Value), off + k + vs.length ≤ c.size →
  ((vs.zipIdx k).foldl (fun cs x => cs.setIfInBounds (off + x.2) x.1) c).toList = splice c.toList (off + k) vs
 | [], k, c, _ => by simp [splice]
 | v :: vs, k, c, h => by
  simp only [List.length_cons] at h
  simp only [List.zipIdx_cons, List.foldl_cons]
  have ih := fold_splice off vs (k + 1) (c.setIfInBounds (off + k) v) (by simp; omega)
  rw [ih]
  have := list_seg_step c.toList (off + k) v vs (by simp; omega)
  simp only [splice, Array.toList_setIfInBounds, List.length_cons]
  rw [← Nat.add_assoc off k 1]
  exact this
theorem fill_ok {φ : Loc} {t : List Value} {a : Act} (place : Nat → Option (Nat × Nat)) : ∀ (ps : List (Nat × Operand)) (L : List (Nat × Nat × Operand)) (c : List Value) (c' : Array Value) (r : List Value),
  (ps.mapM fun p => (place p.1).map fun q => (q.1, q.2, p.2)) = some L → (∀ p ∈ ps, VRel φ (ev t p.2) (a.eval p.2)) → LRel φ c c'.toList → c.all Value.oneCell' = true →
  fillL c (L.map fun p => (p.1, p.2.1, ev t p.2.2)) = some r →
  ∃ r', Instr.fill place c' (ps.map fun p => (p.1, a.eval p.2)) = some r' ∧ LRel φ r r'.toList ∧ r.all Value.oneCell' = true
 | [], L, c, c', r, hL, _, hc, ho, hf => by
  simp at hL; subst hL
  simp [fillL] at hf; subst hf
  exact ⟨c', rfl, hc, ho⟩
 | p :: ps, L, c, c', r, hL, hv, hc, ho, hf => by
  simp only [List.mapM_cons, Option.bind_eq_bind, Option.pure_def] at hL
  cases hp : place p.1 with
  | none => simp [hp] at hL
  | some q =>
   cases hr : (ps.mapM fun p => (place p.1).map fun q => (q.1, q.2, p.2)) with
   | none => simp [hp, hr] at hL
   | some L' =>
    simp only [hp, hr, Option.map_some, Option.bind_some, Option.some.injEq] at hL
    subst hL
    simp only [List.map_cons, fillL] at hf
    split at hf
    ·rename_i hcond
     obtain ⟨hs, hle, hnt⟩ := hcond
     have hpv := hv p (by simp)
     have hcells := hpv.cells
     have hsz : (ev t p.2).cells.size = (a.eval p.2).cells.size := by simpa using hcells.length
     have hcl : c.length = c'.size := by simpa using hc.length
     have hfold := fold_splice q.1 (a.eval p.2).cells.toList 0 c' (by simp; omega)
     simp only [Nat.add_zero] at hfold
     have hfold' : ((a.eval p.2).cells.zipIdx.foldl (fun cs x => cs.setIfInBounds (q.1 + x.2) x.1) c').toList = splice c'.toList q.1 (a.eval p.2).cells.toList := by
      rw [← hfold, ← Array.foldl_toList]; simp
     have hrel : LRel φ (splice c q.1 (ev t p.2).cells.toList) ((a.eval p.2).cells.zipIdx.foldl (fun cs x => cs.setIfInBounds (q.1 + x.2) x.1) c').toList := by
      rw [hfold']; exact splice_rel hc hcells q.1
     obtain ⟨r', h1, h2, h3⟩ := fill_ok place ps L' _ _ r hr (fun x hx => hv x (by simp [hx])) hrel (splice_all ho (hpv.cells_one hnt)) hf
     refine ⟨r', ?_, h2, h3⟩
     simp only [List.map_cons, Instr.fill, hp]
     rw [if_neg (by simp; omega)]
     exact h1
    ·cases hf
theorem mapM_parts (s : Nat) : ∀ (ps : List (Nat × Operand)), (ps.mapM fun p => ((fun i => some (i * s, s)) p.1 : Option (Nat × Nat)).map fun q => (q.1, q.2, p.2)) = some (partsA s ps)
 | [] => rfl
 | p :: ps => by
  have ih := mapM_parts s ps
  simp only [List.mapM_cons, Option.map_some, Option.bind_eq_bind, Option.bind_some, Option.pure_def] at ih ⊢
  rw [ih]
  simp [partsA]
theorem mapM_fields {fs : Array Field} {places : List (Nat × Nat)} (h : fs.toList.mapM (fun f => (P.info? f.type).map fun i => (f.offset, i.size)) = some places) :
  ∀ i : Nat, places.toArray[i]? = (fs[i]?).bind fun f => (szOf P f.type).map fun s => (f.offset, s) := by
 have key : ∀ (l : List Field) (pl : List (Nat × Nat)), l.mapM (fun f => (P.info? f.type).map fun i => (f.offset, i.size)) = some pl → ∀ i : Nat, pl[i]? = (l[i]?).bind fun f => (szOf P f.type).map fun s => (f.offset, s) := by
  intro l
  induction l with
  | nil => intro pl h i; simp at h; subst h; simp
  | cons f l ih =>
   intro pl h i
   simp only [List.mapM_cons, Option.bind_eq_bind, Option.pure_def] at h
   cases hi : P.info? f.type with
   | none => simp [hi] at h
   | some x =>
    cases hr : l.mapM (fun f => (P.info? f.type).map fun i => (f.offset, i.size)) with
    | none => simp [hi, hr] at h
    | some rest =>
     simp [hi, hr] at h
     subst h
     cases i with
     | zero => simp [szOf, hi]
     | succ i => simp [ih rest hr i]
 intro i
 have := key fs.toList places h i
 simpa using this
theorem mapM_isSome {fs : List Field} (h : fs.all (fun f => (szOf P f.type).isSome) = true) : ∃ places, fs.mapM (fun f => (P.info? f.type).map fun i => (f.offset, i.size)) = some places := by
 induction fs with
 | nil => exact ⟨[], rfl⟩
 | cons f fs ih =>
  simp only [List.all_cons, Bool.and_eq_true] at h
  obtain ⟨pl, hpl⟩ := ih h.2
  have h1 := h.1
  unfold szOf at h1
  cases hi : P.info? f.type with
  | none => simp [hi] at h1
  | some x => exact ⟨_, by simp [List.mapM_cons, hi, hpl]; rfl⟩
theorem g_build {φ : Loc} {M : Mem} {w : World} (h : Rep P idf φ M w) {t : List Value} {a : Act} {ty : TypeId} {ps : Array (Nat × Operand)} {z : Value} (hz : zeroOf P ty = some z) {L : List (Nat × Nat × Operand)}
  (hL : (∃ fs, P.underlying ty = some (.struct fs) ∧ fs.toList.all (fun f => (szOf P f.type).isSome) = true ∧ partsS P fs ps.toList = some L) ∨ (∃ n e s, P.underlying ty = some (.array n e) ∧ szOf P e = some s ∧ L = partsA s ps.toList))
  (hv : ∀ p ∈ ps.toList, VRel φ (ev t p.2) (a.eval p.2)) {c : List Value} (hf : fillL z.cells.toList (L.map fun p => (p.1, p.2.1, ev t p.2.2)) = some c) :
  Gives P idf (Instr.build ty (ps.map fun (i, x) => (i, a.eval x))) φ M w (.agg c.toArray) M := by
 obtain ⟨i, hi, hz', hk⟩ := zero_info hz
 have hmap : (ps.map fun (i, x) => (i, a.eval x)).toList = ps.toList.map fun p => (p.1, a.eval p.2) := by simp
 rcases hL with ⟨fs, hu, hall, hp⟩ | ⟨n, e, s, hu, hs, rfl⟩
 ·obtain ⟨places, hpl⟩ := mapM_isSome hall
  have hplace := mapM_fields hpl
  have hL' : (ps.toList.mapM fun p => ((fun i => places.toArray[i]?) p.1 : Option (Nat × Nat)).map fun q => (q.1, q.2, p.2)) = some L := by
   rw [← hp]; unfold partsS; congr 1; funext p
   simp only [hplace]
   cases fs[p.1]? with
   | none => rfl
   | some f => simp only [Option.bind_some]; cases szOf P f.type <;> rfl
  obtain ⟨r', h1, h2, h3⟩ := fill_ok (φ := φ) (t := t) (a := a) (fun i => places.toArray[i]?) ps.toList L z.cells.toList z.cells c hL' hv (VRel.okC hk).cells (all_okS (cells_okS hk)) hf
  refine Gives.same h (run_build w ty _ r' ?_) (VRel.of_agg h2 h3)
  unfold Program.built
  simp only [hi, hu, hz', hpl, hmap]
  exact h1
 ·obtain ⟨ie, hie, rfl⟩ := sz_info hs
  obtain ⟨r', h1, h2, h3⟩ := fill_ok (φ := φ) (t := t) (a := a) (fun i => some (i * ie.size, ie.size)) ps.toList _ z.cells.toList z.cells c (mapM_parts ie.size ps.toList) hv (VRel.okC hk).cells (all_okS (cells_okS hk)) hf
  refine Gives.same h (run_build w ty _ r' ?_) (VRel.of_agg h2 h3)
  unfold Program.built
  simp only [hi, hu, hz', hie, hmap]
  exact h1
theorem rep_length (n : Nat) (z : List Value) : (rep n z).length = n * z.length := by
 unfold rep; simp [List.length_flatten]
theorem rep_get {n : Nat} {z : List Value} : ∀ {j : Nat}, j < n * z.length → (rep n z)[j]? = z[j % z.length]? := by
 induction n with
 | zero => intro j h; simp at h
 | succ n ih =>
  intro j h
  have hu : rep (n + 1) z = z ++ rep n z := by simp [rep, List.replicate_succ]
  rw [hu]
  by_cases hj : j < z.length
  ·rw [List.getElem?_append_left hj, Nat.mod_eq_of_lt hj]
  ·rw [List.getElem?_append_right (by omega), ih (by rw [Nat.succ_mul] at h; omega)]
   congr 1
   rw [Nat.mod_eq_sub_mod (by omega : j ≥ z.length)]
theorem rep_okS {n : Nat} {z : List Value} (h : z.all okS = true) : (rep n z).all okS = true := by
 simp only [rep, List.all_eq_true, List.mem_flatten, List.mem_replicate] at *
 rintro x ⟨l, ⟨_, rfl⟩, hx⟩
 exact h x hx
theorem made_rep {z : Array Value} {n : Nat} (hz : 0 < z.size) : ((Array.range (n * z.size)).map (z[· % z.size]!)).toList = rep n z.toList := by
 apply List.ext_getElem?
 intro j
 by_cases hj : j < n * z.size
 ·rw [rep_get (by simpa using hj)]
  have hm : j % z.size < z.size := Nat.mod_lt _ hz
  simp [hj, hm]
 ·rw [List.getElem?_eq_none (by simp; omega), List.getElem?_eq_none (by rw [rep_length]; simp; omega)]
theorem g_lit {φ : Loc} {M : Mem} {w : World} (h : Rep P idf φ M w) {t : List Value} {a : Act} {ty e : TypeId} {len s : Nat} {ps : Array (Nat × Operand)} {z : List Value} (hu : P.underlying ty = some (.slice e)) (hz : elemZ P e = some (s, z))
  (hlen : len * s ≤ 2 ^ 24) (hv : ∀ p ∈ ps.toList, VRel φ (ev t p.2) (a.eval p.2)) {c : List Value} (hf : fillL (rep len z) ((partsA s ps.toList).map fun p => (p.1, p.2.1, ev t p.2.2)) = some c) :
  Gives P idf (Instr.buildSlice ty len (ps.map fun (i, x) => (i, a.eval x))) φ M w (.slice (some ⟨M.size, 0, some 0⟩) len len) (M.push (.cells c e true)) := by
 obtain ⟨i, y, hi, hy, hk, rfl, hs0, rfl, hzl⟩ := elemZ_info hz
 have hmap : (ps.map fun (i, x) => (i, a.eval x)).toList = ps.toList.map fun p => (p.1, a.eval p.2) := by simp
 have hok := cells_okS hk
 have hyz : y.cells.size = i.size := by simpa using hzl
 have hz0 : LRel φ (rep len y.cells.toList) ((Array.range (len * i.size)).map (y.cells[· % y.cells.size]!)).toList := by
  rw [← hyz, made_rep (by omega)]; exact LRel.okS (rep_okS hok)
 by_cases h0 : len * i.size = 0
 ·have hl0 : len = 0 := by
   rcases Nat.mul_eq_zero.1 h0 with h | h
   ·exact h
   ·exact absurd h hs0
  subst hl0
  obtain ⟨r', h1, h2, h3⟩ := fill_ok (φ := φ) (t := t) (a := a) (fun j => some (j * i.size, i.size)) ps.toList _ (rep 0 y.cells.toList) #[] c (mapM_parts i.size ps.toList) hv .nil rfl hf
  obtain ⟨g1, g2⟩ := g_new (t := e) h h2 h3
  refine ⟨_, .slice (some ⟨w.heap.size, 0, none⟩) 0 0, _, ?_, .slx _ _ _ 0 _ _ _ (by simp [Loc.add]) (Nat.le_refl _), g1, g2⟩
  have h1' : Instr.fill (fun j => some (j * i.size, i.size)) #[] (ps.map fun (i, x) => (i, a.eval x)).toList = some r' := by rw [hmap]; exact h1
  have h0' : (Array.range 0).map (fun j => (#[] : Array Value)[j % (#[] : Array Value).size]!) = #[] := by simp
  simp only [Instr.buildSlice, Sem.run_bind, run_underlying hu, sizeOf, typeInfo, hi, Result.andThen_ok, run_program, Sem.run_pure, Nat.zero_mul, gt_iff_lt, Nat.not_lt_zero, if_false, if_true, Nat.reducePow, h0', h1', newRow, run_newObj, Sem.run_ite]
  rfl
 ·obtain ⟨r', h1, h2, h3⟩ := fill_ok (φ := φ) (t := t) (a := a) (fun j => some (j * i.size, i.size)) ps.toList _ (rep len y.cells.toList) _ c (mapM_parts i.size ps.toList) hv hz0 (all_okS (rep_okS hok)) hf
  obtain ⟨g1, g2⟩ := g_new (t := e) h h2 h3
  refine ⟨_, .slice (some ⟨w.heap.size, 0, none⟩) len len, _, ?_, .slx _ _ _ 0 _ _ _ (by simp [Loc.add]) (Nat.le_refl _), g1, g2⟩
  exact run_buildSlice w ty e len _ r' i y hu hi hy (by omega) h0 (by rw [hmap]; exact h1)
theorem g_mkSlice {φ : Loc} {M : Mem} {w : World} (h : Rep P idf φ M w) {ty e : TypeId} {s b : Nat} {z : List Value} (hu : P.underlying ty = some (.slice e)) (hz : elemZ P e = some (s, z)) (hb : bytesOfT P e = some b)
  {kl kc : IntKind} {l c : Int} (h0 : 0 ≤ l) (hlc : l ≤ c) (hc : c ≤ 2 ^ 40) (hcb : c * b ≤ 2 ^ 40) :
  Gives P idf (Instr.makeSlice ty (.int kl l) (.int kc c)) φ M w (.slice (some ⟨M.size, 0, some 0⟩) l.toNat c.toNat) (M.push (.cells (rep c.toNat z) e true)) := by
 obtain ⟨i, y, hi, hy, hk, rfl, hs0, rfl, hzl⟩ := elemZ_info hz
 have hok := cells_okS hk
 have hyz : y.cells.size = i.size := by simpa using hzl
 have hbb : i.bytes = b := by simpa [bytesOfT, hi] using hb
 have hrun := run_make (P := P) w ty e i y hu hi hy kl kc l c h0 hlc (by rw [hbb, Int.mul_comm]; omega) (by omega)
 have hrel : LRel φ (rep c.toNat y.cells.toList) (madeCells y.cells (c.toNat * i.size)).toList := by
  unfold madeCells; rw [← hyz, made_rep (by omega)]; exact LRel.okS (rep_okS hok)
 obtain ⟨g1, g2⟩ := g_new (t := e) h hrel (all_okS (rep_okS hok))
 exact ⟨_, _, _, hrun, .slx _ _ _ 0 _ _ _ (by simp [Loc.add]) (by omega), g1, g2⟩
theorem g_load {φ : Loc} {M : Mem} {w : World} (h : Rep P idf φ M w) {ty : TypeId} {n : Option Nat} (hn : aggOf P ty = some n) {b off : Nat} {x' : Value} (hx : VRel φ (.pointer (some ⟨b, off, none⟩)) x') {v : Value}
  (hv : (match n with | some n => (M.loadN b off n).map fun c => (.agg c.toArray : Value) | none => M.load1 b off) = some v) : Gives P idf (Instr.loadAt ty x') φ M w v M := by
 cases hx with
 | ptr _ _ c K hb =>
  cases n with
  | some n =>
   simp only at hv
   cases hl : M.loadN b off n with
   | none => simp [hl] at hv
   | some cs =>
    simp only [hl, Option.map_some, Option.some.injEq] at hv
    subst hv
    obtain ⟨cs', h1, h2, h3, h4⟩ := h.loadN hb hl
    obtain ⟨h5, h6⟩ := run_agg_some hn w
    refine Gives.same h (v' := .agg cs'.toArray) ?_ (VRel.of_agg (by simpa using h1) h3)
    simp [Instr.loadAt, Instr.sureAddr, loadVar, h5, h6, h4]
  | none =>
   simp only at hv
   obtain ⟨v', h1, h2, h3⟩ := h.load1 hb hv
   have h5 := run_agg_none hn w
   refine Gives.same h (v' := v') ?_ h1
   simp [Instr.loadAt, Instr.sureAddr, loadVar, h5, h3]
theorem g_store {φ : Loc} {M M' : Mem} {w : World} (h : Rep P idf φ M w) {ty : TypeId} {n : Nat} (hn : szOf P ty = some n) {b off : Nat} {p' x x' : Value} (hp : VRel φ (.pointer (some ⟨b, off, none⟩)) p') (hx : VRel φ x x')
  (hs : x.cells.size = n) (hnt : notTup x = true) (hst : M.storeQ b off x.cells.toList = some M') : ∃ w', (Instr.storeAt ty p' x').run P w = .ok () w' ∧ Rep P idf φ M' w' ∧ Stp φ M w φ M' w' := by
 cases hp with
 | ptr _ _ c K hb =>
  obtain ⟨w', h1, h2, h3⟩ := h.storeQ hb hx.cells (hx.cells_one hnt) hst
  have hsz : x'.cells.size = n := by have := hx.cells.length; simp at this; omega
  refine ⟨w', ?_, h2, h3⟩
  simp [Instr.storeAt, Instr.sureAddr, storeVar, run_sz hn w, hsz, h1]
theorem g_part {φ : Loc} {M : Mem} {w : World} (h : Rep P idf φ M w) {ty : TypeId} {n : Option Nat} (hn : aggOf P ty = some n) {c c' : Array Value} (hx : VRel φ (.agg c) (.agg c')) {off : Nat} {v : Value}
  (hv : partV n c.toList off = some v) : Gives P idf (part ty c' off) φ M w v M := by
 cases hx with
 | agg _ _ ha ia ho =>
  have hrel := LRel.of_arr ha ia
  cases n with
  | some n =>
   simp only [partV] at hv
   split at hv
   ·rename_i hle
    cases hv
    obtain ⟨h5, h6⟩ := run_agg_some hn w
    refine Gives.same h (v' := .agg (c'.extract off (off + n))) ?_ (VRel.of_agg ?_ ?_)
    ·simp [part, h5, h6]
    ·have := (hrel.drop off).take n
     rwa [show (c'.extract off (off + n)).toList = (c'.toList.drop off).take n by simp [List.take_drop]]
    ·simp only [List.all_eq_true] at ho ⊢
     exact fun x hx => ho x (List.mem_of_mem_drop (List.mem_of_mem_take hx))
   ·cases hv
  | none =>
   simp only [partV] at hv
   obtain ⟨v', h1, h2⟩ := hrel.get hv
   have h5 := run_agg_none hn w
   refine Gives.same h (v' := v') ?_ h2
   have h1' : c'[off]? = some v' := by simpa using h1
   simp [part, h5, h1']
end
end Go.Proofs.Ytifemfnjoobiiaa.Run
