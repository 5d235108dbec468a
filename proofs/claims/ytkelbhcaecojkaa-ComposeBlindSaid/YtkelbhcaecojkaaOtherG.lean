/- Grids with other High cells: the contract of the kit's Draft.Other. -/
import Derived.Test.YtkelbhcaecojkaaGridB
import Derived.Test.YtkelbhcaecojkaaStep
namespace Go.Proofs.Ytkelbhcaecojkaa.Run
open Go Go.RowKit
set_option linter.unusedVariables false
set_option linter.unusedSimpArgs false

theorem step_remT {P : Value → Prop} {k : IntKind} {x y : Int} (hy : y ≠ 0) (p : P (.int k (x.tmod y))) : ∃ v, binV .rem 0 [] (.int k x) (.int k y) = some v ∧ P v :=
  ⟨.int k (x.tmod y), by simp only [binV, isShift, Bool.false_eq_true, if_false, if_true, intOp, if_neg hy], p⟩
def otherD (U : Lns) (i : Nat) : List Dr := match U[i % U.length]? with | some p => p.2 | none => []
def othersG (T U : Lns) : Gd := T.mapIdx fun i p => rowF p.1.c p.2 (otherD U i)
def otherG (c : Int) (T U : Lns) : Gd := othersG (linesF c T) U
theorem others_get (T U : Lns) (i : Nat) : (othersG T U)[i]? = (T[i]?).map fun p => rowF p.1.c p.2 (otherD U i) := by unfold othersG; rw [List.getElem?_mapIdx]
theorem others_len (T U : Lns) : (othersG T U).length = T.length := by unfold othersG; simp
theorem others_take (T U : Lns) {i : Nat} {p : Ln × List Dr} (h : T[i]? = some p) : (othersG T U).take (i + 1) = (othersG T U).take i ++ [rowF p.1.c p.2 (otherD U i)] := by
  have hg := others_get T U i
  rw [h] at hg
  obtain ⟨h1, h2⟩ := List.getElem?_eq_some_iff.1 hg
  rw [List.take_succ_eq_append_getElem h1, h2]
theorem otherD_ok {M : Mem} {U : Lns} (h : LnsOK M U) (i : Nat) : ∀ d ∈ otherD U i, d.ok := by
  unfold otherD
  split
  · rename_i p hp; exact (h p (List.mem_of_getElem? hp)).2
  · simp

section
variable {M : Mem} {Q : Value → Mem → Prop}
abbrev goI (P : Mem) (T U : Lns) (c c2 : Int) (w v u : Value) (b1 b3 : Nat) : Nat → LS → Prop := fun k s => ∃ (i : Nat) (M' : Mem) (r : Value), s = ref12_Draft_Other_l1_s r w (.int .i64 i) b1 (.int .u8 c) v b3 (.int .u8 c2) u [] M' ∧ Ext P M' ∧ GrN P M' r ((othersG T U).take i) ∧ i ≤ T.length ∧ k = T.length - i
theorem gother_W (hM : M.base ≤ M.size) {c c2 : Int} (hc : 0 ≤ c ∧ c ≤ 255) {v u : Value} {T U : Lns} (h : SlH M v T.row) (hok : LnsOK M T) (h' : SlH M u U.row) (hok' : LnsOK M U) (q : ∀ M' r, Ext M M' → GrN M M' r (otherG c T U) → Q r M') : W funs known (.func (.func n_ref12_Draft_Other) #[] #[]) [.agg #[.int .u8 c, v], .agg #[.int .u8 c2, u]] M Q := by
  refine ref12_Draft_Other_wp hM ⟨rfl, fun b1 P0 hb1 hP0 => ⟨rfl, fun b3 P hb3 hP => ?_⟩⟩
  have eP : Ext M P := (Ext.push' hP0).trans (Ext.push' hP)
  have sP0 : P0.size = M.size + 1 := by rw [hP0]; rfl
  have sP : P.size = P0.size + 1 := by rw [hP]; rfl
  have kP := eP.ok hM
  refine lines_W kP hc (h.ext eP) (hok.ext eP) fun P2 w e2 n2 => ⟨e2.keep _, ?_⟩
  have k2 := e2.ok kP
  have hU := h'.ext (eP.trans e2)
  have okU := hok'.ext (eP.trans e2)
  have okT := (hok.lines c).ext (eP.trans e2)
  have hc31 : ∀ p ∈ linesF c T, 0 ≤ p.1.c ∧ p.1.c ≤ 255 := fun p hp => by
    obtain ⟨p', _, rfl⟩ := List.mem_map.1 hp
    show 0 ≤ c % 31 ∧ c % 31 ≤ 255
    omega
  have hlen8 : (linesF c T).length ≤ 8 := by simp [linesF]; omega
  unfold otherG at q
  clear h hok
  generalize linesF c T = T at okT n2 hc31 q hlen8
  have hTl : T.row.length = T.length := by simp
  have hUl : U.row.length = U.length := by simp
  refine ⟨ref12_Draft_Other_l1_m, goI P2 T U c c2 w v u b1 b3, ⟨T.length, 0, P2, .slice none 0 0, rfl, Ext.refl _, ⟨[], .inr ⟨rfl, rfl⟩, by simp, rfl⟩, Nat.zero_le _, rfl⟩, ?_⟩
  rintro k s ⟨i, M', r, rfl, eM, nM0, hi, rfl⟩
  have nM : GrN P2 M' r ((othersG T U).take i) := nM0
  clear nM0
  refine ref12_Draft_Other_l1_wp (I := goI P2 T U c c2 w v u b1 b3) (step_lenS n2.sl ?_)
  rw [hTl]
  refine step_lss (wpIf.dec (fun g1 => ?_) (fun g1 => ?_))
  · obtain ⟨p, hp⟩ : ∃ p, T[i]? = some p := ⟨_, List.getElem?_eq_getElem (by omega)⟩
    have hr : T.row[i]? = some p.1 := by show (T.map _)[i]? = _; rw [List.getElem?_map, hp]; rfl
    obtain ⟨hsl, hd⟩ := okT p (List.mem_of_getElem? hp)
    have kM := eM.ok k2
    refine step_lenH hU ?_
    rw [hUl]
    refine step_gtr (wpIf.dec (fun g2 => ?_) (fun g2 => ?_))
    · have hm : i % U.length < U.length := Nat.mod_lt _ (by omega)
      obtain ⟨d, hdU⟩ : ∃ d, U[i % U.length]? = some d := ⟨_, List.getElem?_eq_getElem hm⟩
      have hdr : U.row[i % U.length]? = some d.1 := by show (U.map _)[_]? = _; rw [List.getElem?_map, hdU]; rfl
      obtain ⟨osl, od⟩ := okU d (List.mem_of_getElem? hdU)
      have hD : otherD U i = d.2 := by unfold otherD; rw [hdU]
      refine step_lenH hU ?_
      rw [hUl]
      refine step_remT (by omega) ?_
      rw [show (i : Int).tmod (U.length : Int) = ((i % U.length : Nat) : Int) from rfl]
      refine rd_f ((hU.at hdr).ext eM) (by omega) (by rw [Int.toNat_natCast]; exact hdr) (f := 1) (x := d.1.v) rfl fun _ _ => ?_
      refine rd (n2.sl.ext eM) (by omega) (by rw [Int.toNat_natCast]; exact hr) fun _ => other_W kM (hc31 p (List.mem_of_getElem? hp)) (hsl.ext eM) hd (osl.ext eM) od fun M6 x e6 n6 => ⟨e6.keep _, ?_⟩
      have e06 := eM.trans e6
      obtain ⟨l, M8, hl, e8, v9, M10, ha, e10, g10, k10⟩ := appG (bytes := 24) (z := .slice none 0 0) e06 k2 (nM.ext e6) (n6.old eM) (by rw [List.length_take, others_len]; omega) (by decide)
      refine ⟨l, M8, hl, e8.keep _, v9, M10, ha, keepEs (fun b hb => ?_) (e06.trans e8) e10, step_add (by omega) (by omega) ⟨T.length - (i + 1), by omega, i + 1, M10, v9, rfl, e10, ?_, by omega, rfl⟩⟩
      · simp only [List.mem_cons, List.not_mem_nil, or_false] at hb
        have := e2.size
        omega
      · rw [others_take T U hp, hD]; exact g10
    · have hz : U.length = 0 := by omega
      have hD : otherD U i = [] := by unfold otherD; rw [List.getElem?_eq_none (by omega)]
      refine rd (n2.sl.ext eM) (by omega) (by rw [Int.toNat_natCast]; exact hr) fun _ => other_W kM (hc31 p (List.mem_of_getElem? hp)) (hsl.ext eM) hd (.inl (Sl.nil _)) (by simp) fun M6 x e6 n6 => ⟨e6.keep _, ?_⟩
      have e06 := eM.trans e6
      obtain ⟨l, M8, hl, e8, v9, M10, ha, e10, g10, k10⟩ := appG (bytes := 24) (z := .slice none 0 0) e06 k2 (nM.ext e6) (n6.old eM) (by rw [List.length_take, others_len]; omega) (by decide)
      refine ⟨l, M8, hl, e8.keep _, v9, M10, ha, keepEs (fun b hb => ?_) (e06.trans e8) e10, step_add (by omega) (by omega) ⟨T.length - (i + 1), by omega, i + 1, M10, v9, rfl, e10, ?_, by omega, rfl⟩⟩
      · simp only [List.mem_cons, List.not_mem_nil, or_false] at hb
        have := e2.size
        omega
      · rw [others_take T U hp, hD]; exact g10
  · have : i = T.length := by omega
    subst this
    rw [← others_len T U, List.take_length] at nM
    exact blockK.hit (ref12_Draft_Other_c0_wp (q M' r ((eP.trans e2).trans eM) (nM.old (eP.trans e2))))
end
end Go.Proofs.Ytkelbhcaecojkaa.Run
