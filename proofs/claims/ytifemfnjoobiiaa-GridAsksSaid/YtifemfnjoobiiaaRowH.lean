/- What filled, Row and Other of the document's answer to chapter 10 do: rows that are drawn. -/
import Derived.Test.YtifemfnjoobiiaaRowG
namespace Go.Proofs.Ytifemfnjoobiiaa.Run
open Go Go.RowKit
set_option linter.unusedVariables false
set_option linter.unusedSimpArgs false
def baseF (A : List Lv) : List Ce := A.map fun a => { zeroC with label := a.n }
def pickF (A : List Lv) (D O : List Dr) (i : Nat) : Option Dr := match A[i]? with
 | some a => if a.n = 1 ∧ 0 < O.length then O[i % O.length]? else D[i % D.length]?
 | none => none
def wideF (A : List Lv) (d : Dr) (i n : Nat) : Bool := d.wide && decide (i + 1 < n) && (match A[i + 1]?, A[i]? with
 | some x, some y => decide (x.n = y.n)
 | _, _ => false)
def fillStep (A : List Lv) (D O : List Dr) (r : List Ce) (i : Nat) : List Ce := match A[i]?, pickF A D O i, r[i]? with
 | some a, some d, some c => if d.rune % 5 = 4 ∨ c.kind = 2 then r else putF r i { cellF d with label := a.n } (wideF A d i r.length)
 | _, _, _ => r
def filledF (A : List Lv) (D O : List Dr) : List Ce := if D.length = 0 then baseF A else (List.range A.length).foldl (fillStep A D O) (baseF A)
theorem putF_len (L : List Ce) (x : Int) (c : Ce) (w : Bool) : (putF L x c w).length = L.length := by
 unfold putF
 split
 ·rfl
 ·rename_i h
  simp only [List.length_append, List.length_take, List.length_drop, brk2_len]
  omega
theorem fillStep_len (A : List Lv) (D O : List Dr) (r : List Ce) (i : Nat) : (fillStep A D O r i).length = r.length := by
 unfold fillStep
 split
 ·split
  ·rfl
  ·rw [putF_len]
 ·rfl
theorem fills_len (A : List Lv) (D O : List Dr) (l : List Nat) : ∀ r : List Ce, (l.foldl (fillStep A D O) r).length = r.length := by
 induction l with
 | nil => intro r; rfl
 | cons i l ih => intro r; rw [List.foldl_cons, ih, fillStep_len]
theorem Mine.new {α : Type} [E : Enc α] {ty : TypeId} {M M' : Mem} {v : Value} {L : List α} (h : Mine ty M M' v L) (h0 : L ≠ []) : New ty M M' v L := by
 rcases h with h | ⟨h, _⟩
 ·exact h
 ·exact absurd h h0
section
variable {M : Mem} {Q : Value → Mem → Prop}
abbrev fiI (M : Mem) (A : List Lv) (av dv ov r : Value) : Nat → LS → Prop := fun k s => ∃ (i : Nat) (M' : Mem), s = ref10_filled_l1_s av dv ov r (.int .i64 i) [] M' ∧ Ext M M' ∧ Mine 42 M M' r (baseF (A.take i) ++ List.replicate (A.length - i) zeroC) ∧ i ≤ A.length ∧ k = A.length - i
abbrev f3I (M : Mem) (A : List Lv) (D O : List Dr) (av dv ov : Value) : Nat → LS → Prop := fun k s => ∃ (i : Nat) (M' : Mem) (r : Value), s = ref10_filled_l3_s av dv ov r (.int .i64 i) [] M' ∧ Ext M M' ∧ Mine 42 M M' r ((List.range i).foldl (fillStep A D O) (baseF A)) ∧ i ≤ A.length ∧ (D.length = 0 → i = 0) ∧ k = A.length - i
set_option maxHeartbeats 2000000 in
theorem filled_W (hM : M.base ≤ M.size) {av dv ov : Value} {A : List Lv} {D O : List Dr} (hA : Sl M av A) (hD : SlH M dv D) (hO : SlH M ov O) (okD : ∀ d ∈ D, d.ok) (okO : ∀ d ∈ O, d.ok) (lA : A.length ≤ 2 ^ 30) (q : ∀ M' r, Ext M M' → Mine 42 M M' r (filledF A D O) → Q r M') :
  W funs known (.func (.func n_ref10_filled) #[] #[]) [av, dv, ov] M Q := by
 refine ref10_filled_wp hM (step_lenS hA ⟨zeroC.val, rfl, refnew_W hM (by omega) fun M4 r4 e4 n4 => ?_⟩)
 rw [Int.toNat_natCast] at n4
 refine ⟨ref10_filled_l1_m, fiI M A av dv ov r4, ⟨A.length, 0, M4, rfl, e4, by simpa [baseF] using n4, Nat.zero_le _, rfl⟩, ?_⟩
 rintro k s ⟨i, M', rfl, eM, nM0, hi, rfl⟩
 have nM : Mine 42 M M' r4 (baseF (A.take i) ++ List.replicate (A.length - i) zeroC) := nM0
 clear nM0
 refine ref10_filled_l1_wp (I := fiI M A av dv ov r4) ?_
 have hlen : (baseF (A.take i) ++ List.replicate (A.length - i) zeroC).length = A.length := by simp [baseF]; omega
 refine step_lenS nM.sl (step_lss (wpIf.dec (fun h1 => ?_) (fun h1 => ?_)))
 ·rw [hlen] at h1
  have hlt : i < A.length := by omega
  obtain ⟨a, ha⟩ : ∃ a, A[i]? = some a := ⟨_, List.getElem?_eq_getElem hlt⟩
  have hget : (baseF (A.take i) ++ List.replicate (A.length - i) zeroC)[i]? = some zeroC := by
   have hl : (baseF (A.take i)).length = i := by simp [baseF]; omega
   rw [List.getElem?_append_right (by omega), hl, Nat.sub_self, List.getElem?_replicate, if_pos (by omega)]
  have nN := nM.new (by intro h; rw [h] at hlen; simp at hlen; omega)
  refine rd1 (hA.ext eM) (by omega) (by rw [Int.toNat_natCast]; exact ha) rfl fun _ => ?_
  refine wr_f eM hM nN ({ zeroC with label := a.n } : Ce) hget (f := 13) (by decide) rfl rfl rfl fun u M8 e8 n8 => step_add (by omega) (by omega) ⟨A.length - (i + 1), by omega, i + 1, M8, rfl, e8, .inl ?_, by omega, rfl⟩
  have : (baseF (A.take i) ++ List.replicate (A.length - i) zeroC).set i ({ zeroC with label := a.n } : Ce) = baseF (A.take (i + 1)) ++ List.replicate (A.length - (i + 1)) zeroC := by
   have hl : (baseF (A.take i)).length = i := by simp [baseF]; omega
   rw [List.set_append_right _ _ (by omega), hl, Nat.sub_self, show A.length - i = (A.length - (i + 1)) + 1 by omega, List.replicate_succ, List.set_cons_zero, List.take_add_one, ha]
   simp [baseF]
  rw [← this]; exact n8
 rw [hlen] at h1
 have hiA : i = A.length := by omega
 subst hiA
 rw [List.take_length, Nat.sub_self, List.replicate_zero, List.append_nil] at nM
 refine blockK.hit (ref10_filled_c0_wp ?_)
 refine ⟨ref10_filled_l3_m, f3I M A D O av dv ov, ⟨A.length, 0, M', r4, rfl, eM, nM, Nat.zero_le _, fun _ => rfl, rfl⟩, ?_⟩
 clear nM eM hlen h1 hi e4 n4
 rintro k s ⟨i, M', r, rfl, eM, nM0, hi, hi0, rfl⟩
 have nM : Mine 42 M M' r ((List.range i).foldl (fillStep A D O) (baseF A)) := nM0
 clear nM0
 refine ref10_filled_l3_wp (I := f3I M A D O av dv ov) ?_
 have hlen : ((List.range i).foldl (fillStep A D O) (baseF A)).length = A.length := by rw [fills_len]; simp [baseF]
 have hsucc : (List.range (i + 1)).foldl (fillStep A D O) (baseF A) = fillStep A D O ((List.range i).foldl (fillStep A D O) (baseF A)) i := by rw [List.range_succ, List.foldl_append]; rfl
 have hfin : (¬ i < A.length ∨ ¬ 0 < D.length) → filledF A D O = (List.range i).foldl (fillStep A D O) (baseF A) := by
  intro h
  unfold filledF
  rcases Nat.eq_zero_or_pos D.length with h0 | h0
  ·rw [if_pos h0, hi0 h0]; rfl
  ·rw [if_neg (by omega), show i = A.length by omega]
 generalize hC : (List.range i).foldl (fillStep A D O) (baseF A) = C at nM hlen hsucc hfin
 refine step_lenS nM.sl (step_lss (wpIf.dec (fun h1 => step_lenH hD (step_gtr (wpIf.dec (fun h2 => step_lenH hD (step_rem64 (by omega) (by omega) ?_)) (fun h2 => ?_)))) (fun h1 => ?_)))
 ·have hlt : i < A.length := by omega
  obtain ⟨a, ha⟩ : ∃ a, A[i]? = some a := ⟨_, List.getElem?_eq_getElem hlt⟩
  obtain ⟨c, hc⟩ : ∃ c, C[i]? = some c := ⟨_, List.getElem?_eq_getElem (by omega)⟩
  have hmD : i % D.length < D.length := Nat.mod_lt _ (by omega)
  obtain ⟨d, hd⟩ : ∃ d, D[i % D.length]? = some d := ⟨_, List.getElem?_eq_getElem hmD⟩
  have okd : d.ok := okD d (List.mem_of_getElem? hd)
  rw [show ((i : Int) % (D.length : Int)) = ((i % D.length : Nat) : Int) by omega]
  have again : ∀ M'' r', Ext M M'' → Mine 42 M M'' r' (fillStep A D O C i) → ∃ j, j < A.length - i ∧ f3I M A D O av dv ov j (ref10_filled_l3_s av dv ov r' (.int .i64 ((i : Int) + 1)) [] M'') :=
   fun M'' r' e n => ⟨A.length - (i + 1), by omega, i + 1, M'', r', rfl, e, by rw [hsucc]; exact n, by omega, fun h => by omega, rfl⟩
  have again : ∀ M'' r', Ext M M'' → ∀ {L'}, Mine 42 M M'' r' L' → fillStep A D O C i = L' → ∃ j, j < A.length - i ∧ f3I M A D O av dv ov j (ref10_filled_l3_s av dv ov r' (.int .i64 ((i : Int) + 1)) [] M'') :=
   fun M'' r' e L' n h => again M'' r' e (h ▸ n)
  refine rd ((hD.ext eM).at hd) (by omega) (by rw [Int.toNat_natCast]; exact hd) fun _ => ⟨rfl, fun b9 M10 hb9 hM10 => ⟨⟨rfl, rfl, by decide⟩, fun M11 hM11 => ?_⟩⟩
  have e10 : Ext M' M10 := Ext.push' hM10
  have s10 : M10.size = M'.size + 1 := by rw [hM10]; rfl
  have e11 : Ext M' M11 := hM11 ▸ e10.set (by omega) (by omega) _
  have s11 : M11.size = M10.size := by rw [hM11]; rfl
  have e011 := eM.trans e11
  refine rd1 (hA.ext e011) (by omega) (by rw [Int.toNat_natCast]; exact ha) rfl fun _ => step_eql (wpIf.dec (fun h3 => ?_) (fun h3 => ?_))
  ·refine step_lenH hO (step_gtr (wpIf.dec (fun h4 => step_lenH hO (step_rem64 (by omega) (by omega) ?_)) (fun h4 => ?_)))
   ·have hmO : i % O.length < O.length := Nat.mod_lt _ (by omega)
    obtain ⟨o, ho⟩ : ∃ o, O[i % O.length]? = some o := ⟨_, List.getElem?_eq_getElem hmO⟩
    have oko : o.ok := okO o (List.mem_of_getElem? ho)
    rw [show ((i : Int) % (O.length : Int)) = ((i % O.length : Nat) : Int) by omega]
    have hst : fillStep A D O C i = if o.rune % 5 = 4 ∨ c.kind = 2 then C else putF C i { cellF o with label := a.n } (wideF A o i C.length) := by
     unfold fillStep pickF
     rw [ha]
     simp only
     rw [if_pos ⟨h3, by omega⟩, ho, hc]
    refine rd ((hO.ext e011).at ho) (by omega) (by rw [Int.toNat_natCast]; exact ho) fun _ => ⟨⟨rfl, rfl, by exact Nat.le_refl 5⟩, fun M21 hM21 => ?_⟩
    have e21 : Ext M' M21 := hM21 ▸ e11.set (by omega) (by omega) _
    have e021 := eM.trans e21
    refine LGet.mk (v := .int .u8 o.rune) rfl (step_rem8 (by omega) (by have := oko.rune; omega) (step_eql (wpIf.dec (fun h5 => ?_) (fun h5 => ?_))))
    ·refine step_add (by omega) (by omega) (again M21 r e021 (nM.ext e21) ?_)
     rw [hst, if_pos (.inl h5)]
    refine rd_f (nM.sl.ext e21) (by omega) (by rw [Int.toNat_natCast]; exact hc) (f := 3) rfl fun _ _ => step_eql (wpIf.dec (fun h6 => ?_) (fun h6 => ?_))
    ·refine step_add (by omega) (by omega) (again M21 r e021 (nM.ext e21) ?_)
     rw [hst, if_pos (.inr h6)]
    have hnx := hst
    rw [if_neg (by omega)] at hnx
    refine LGetN.as o.val (by exact Nat.le_refl 5) rfl (cell_W (e021.ok hM) oko fun M33 e33 => ⟨e33.keep _, rfl, fun b34 M35 hb34 hM35 => ⟨⟨rfl, rfl, by decide⟩, fun M36 hM36 => ?_⟩⟩)
    have e35 : Ext M21 M35 := e33.trans (Ext.push' hM35)
    have s33 := e33.size
    have s35 : M35.size = M33.size + 1 := by rw [hM35]; rfl
    have e36 : Ext M21 M36 := hM36 ▸ e35.set (by omega) (by omega) _
    have s36 : M36.size = M35.size := by rw [hM36]; rfl
    refine rd1 (hA.ext (e021.trans e36)) (by omega) (by rw [Int.toNat_natCast]; exact ha) rfl fun _ => ⟨_, rfl, rfl, by exact Nat.lt_of_lt_of_le (by decide) (Nat.le_refl 14), fun M39 hM39 => ?_⟩
    have e39 : Ext M21 M39 := hM39 ▸ e36.set (by omega) (by omega) _
    have e0 : Ext M M39 := e021.trans e39
    refine LGetN.as ({ cellF o with label := a.n } : Ce).val (by exact Nat.le_refl 14) rfl (LGet.mk (v := .bool o.wide) rfl (wpIf.mk (fun h7 => ?_) (fun h7 => ?_)))
    ·refine step_add (by omega) (by omega) (step_lenS nM.sl (step_lss (wpIf.dec (fun h8 => ?_) (fun h8 => ?_))))
     ·obtain ⟨a', ha'⟩ : ∃ a', A[i + 1]? = some a' := ⟨_, List.getElem?_eq_getElem (by omega)⟩
      refine step_add (by omega) (by omega) (rd1 (hA.ext e0) (by omega) (by rw [show ((i : Int) + 1).toNat = i + 1 by omega]; exact ha') rfl fun _ => rd1 (hA.ext e0) (by omega) (by rw [Int.toNat_natCast]; exact ha) rfl fun _ => step_eql ?_)
      refine refput_W (e0.ok hM) ((nM.sl.ext e21).ext e39) (by omega) (by omega) fun M53 r' e53 n53 => ⟨e53.keep _, step_add (by omega) (by omega) (again M53 r' (e0.trans e53) (.inl (n53.old e0)) ?_)⟩
      rw [hnx]
      congr 1
      unfold wideF
      rw [h7, ha', ha, Bool.true_and, decide_eq_true (by omega), Bool.true_and]
     ·refine refput_W (e0.ok hM) ((nM.sl.ext e21).ext e39) (by omega) (by omega) fun M53 r' e53 n53 => ⟨e53.keep _, step_add (by omega) (by omega) (again M53 r' (e0.trans e53) (.inl (n53.old e0)) ?_)⟩
      rw [hnx]
      congr 1
      unfold wideF
      rw [decide_eq_false (by omega), Bool.and_false, Bool.false_and]
    ·refine refput_W (e0.ok hM) ((nM.sl.ext e21).ext e39) (by omega) (by omega) fun M53 r' e53 n53 => ⟨e53.keep _, step_add (by omega) (by omega) (again M53 r' (e0.trans e53) (.inl (n53.old e0)) ?_)⟩
     rw [hnx]
     congr 1
     unfold wideF
     rw [h7, Bool.false_and, Bool.false_and]
   ·have hst : fillStep A D O C i = if d.rune % 5 = 4 ∨ c.kind = 2 then C else putF C i { cellF d with label := a.n } (wideF A d i C.length) := by
     unfold fillStep pickF
     rw [ha]
     simp only
     rw [if_neg (by omega), hd, hc]
    refine LGet.mk (v := .int .u8 d.rune) rfl (step_rem8 (by omega) (by have := okd.rune; omega) (step_eql (wpIf.dec (fun h5 => ?_) (fun h5 => ?_))))
    ·refine step_add (by omega) (by omega) (again M11 r e011 (nM.ext e11) ?_)
     rw [hst, if_pos (.inl h5)]
    refine rd_f (nM.sl.ext e11) (by omega) (by rw [Int.toNat_natCast]; exact hc) (f := 3) rfl fun _ _ => step_eql (wpIf.dec (fun h6 => ?_) (fun h6 => ?_))
    ·refine step_add (by omega) (by omega) (again M11 r e011 (nM.ext e11) ?_)
     rw [hst, if_pos (.inr h6)]
    have hnx := hst
    rw [if_neg (by omega)] at hnx
    refine LGetN.as d.val (by exact Nat.le_refl 5) rfl (cell_W (e011.ok hM) okd fun M33 e33 => ⟨e33.keep _, rfl, fun b34 M35 hb34 hM35 => ⟨⟨rfl, rfl, by decide⟩, fun M36 hM36 => ?_⟩⟩)
    have e35 : Ext M11 M35 := e33.trans (Ext.push' hM35)
    have s33 := e33.size
    have s35 : M35.size = M33.size + 1 := by rw [hM35]; rfl
    have e36 : Ext M11 M36 := hM36 ▸ e35.set (by omega) (by omega) _
    have s36 : M36.size = M35.size := by rw [hM36]; rfl
    refine rd1 (hA.ext (e011.trans e36)) (by omega) (by rw [Int.toNat_natCast]; exact ha) rfl fun _ => ⟨_, rfl, rfl, by exact Nat.lt_of_lt_of_le (by decide) (Nat.le_refl 14), fun M39 hM39 => ?_⟩
    have e39 : Ext M11 M39 := hM39 ▸ e36.set (by omega) (by omega) _
    have e0 : Ext M M39 := e011.trans e39
    refine LGetN.as ({ cellF d with label := a.n } : Ce).val (by exact Nat.le_refl 14) rfl (LGet.mk (v := .bool d.wide) rfl (wpIf.mk (fun h7 => ?_) (fun h7 => ?_)))
    ·refine step_add (by omega) (by omega) (step_lenS nM.sl (step_lss (wpIf.dec (fun h8 => ?_) (fun h8 => ?_))))
     ·obtain ⟨a', ha'⟩ : ∃ a', A[i + 1]? = some a' := ⟨_, List.getElem?_eq_getElem (by omega)⟩
      refine step_add (by omega) (by omega) (rd1 (hA.ext e0) (by omega) (by rw [show ((i : Int) + 1).toNat = i + 1 by omega]; exact ha') rfl fun _ => rd1 (hA.ext e0) (by omega) (by rw [Int.toNat_natCast]; exact ha) rfl fun _ => step_eql ?_)
      refine refput_W (e0.ok hM) ((nM.sl.ext e11).ext e39) (by omega) (by omega) fun M53 r' e53 n53 => ⟨e53.keep _, step_add (by omega) (by omega) (again M53 r' (e0.trans e53) (.inl (n53.old e0)) ?_)⟩
      rw [hnx]
      congr 1
      unfold wideF
      rw [h7, ha', ha, Bool.true_and, decide_eq_true (by omega), Bool.true_and]
     ·refine refput_W (e0.ok hM) ((nM.sl.ext e11).ext e39) (by omega) (by omega) fun M53 r' e53 n53 => ⟨e53.keep _, step_add (by omega) (by omega) (again M53 r' (e0.trans e53) (.inl (n53.old e0)) ?_)⟩
      rw [hnx]
      congr 1
      unfold wideF
      rw [decide_eq_false (by omega), Bool.and_false, Bool.false_and]
    ·refine refput_W (e0.ok hM) ((nM.sl.ext e11).ext e39) (by omega) (by omega) fun M53 r' e53 n53 => ⟨e53.keep _, step_add (by omega) (by omega) (again M53 r' (e0.trans e53) (.inl (n53.old e0)) ?_)⟩
     rw [hnx]
     congr 1
     unfold wideF
     rw [h7, Bool.false_and, Bool.false_and]
  ·have hst : fillStep A D O C i = if d.rune % 5 = 4 ∨ c.kind = 2 then C else putF C i { cellF d with label := a.n } (wideF A d i C.length) := by
    unfold fillStep pickF
    rw [ha]
    simp only
    rw [if_neg (fun h => h3 h.1), hd, hc]
   refine LGet.mk (v := .int .u8 d.rune) rfl (step_rem8 (by omega) (by have := okd.rune; omega) (step_eql (wpIf.dec (fun h5 => ?_) (fun h5 => ?_))))
   ·refine step_add (by omega) (by omega) (again M11 r e011 (nM.ext e11) ?_)
    rw [hst, if_pos (.inl h5)]
   refine rd_f (nM.sl.ext e11) (by omega) (by rw [Int.toNat_natCast]; exact hc) (f := 3) rfl fun _ _ => step_eql (wpIf.dec (fun h6 => ?_) (fun h6 => ?_))
   ·refine step_add (by omega) (by omega) (again M11 r e011 (nM.ext e11) ?_)
    rw [hst, if_pos (.inr h6)]
   have hnx := hst
   rw [if_neg (by omega)] at hnx
   refine LGetN.as d.val (by exact Nat.le_refl 5) rfl (cell_W (e011.ok hM) okd fun M33 e33 => ⟨e33.keep _, rfl, fun b34 M35 hb34 hM35 => ⟨⟨rfl, rfl, by decide⟩, fun M36 hM36 => ?_⟩⟩)
   have e35 : Ext M11 M35 := e33.trans (Ext.push' hM35)
   have s33 := e33.size
   have s35 : M35.size = M33.size + 1 := by rw [hM35]; rfl
   have e36 : Ext M11 M36 := hM36 ▸ e35.set (by omega) (by omega) _
   have s36 : M36.size = M35.size := by rw [hM36]; rfl
   refine rd1 (hA.ext (e011.trans e36)) (by omega) (by rw [Int.toNat_natCast]; exact ha) rfl fun _ => ⟨_, rfl, rfl, by exact Nat.lt_of_lt_of_le (by decide) (Nat.le_refl 14), fun M39 hM39 => ?_⟩
   have e39 : Ext M11 M39 := hM39 ▸ e36.set (by omega) (by omega) _
   have e0 : Ext M M39 := e011.trans e39
   refine LGetN.as ({ cellF d with label := a.n } : Ce).val (by exact Nat.le_refl 14) rfl (LGet.mk (v := .bool d.wide) rfl (wpIf.mk (fun h7 => ?_) (fun h7 => ?_)))
   ·refine step_add (by omega) (by omega) (step_lenS nM.sl (step_lss (wpIf.dec (fun h8 => ?_) (fun h8 => ?_))))
    ·obtain ⟨a', ha'⟩ : ∃ a', A[i + 1]? = some a' := ⟨_, List.getElem?_eq_getElem (by omega)⟩
     refine step_add (by omega) (by omega) (rd1 (hA.ext e0) (by omega) (by rw [show ((i : Int) + 1).toNat = i + 1 by omega]; exact ha') rfl fun _ => rd1 (hA.ext e0) (by omega) (by rw [Int.toNat_natCast]; exact ha) rfl fun _ => step_eql ?_)
     refine refput_W (e0.ok hM) ((nM.sl.ext e11).ext e39) (by omega) (by omega) fun M53 r' e53 n53 => ⟨e53.keep _, step_add (by omega) (by omega) (again M53 r' (e0.trans e53) (.inl (n53.old e0)) ?_)⟩
     rw [hnx]
     congr 1
     unfold wideF
     rw [h7, ha', ha, Bool.true_and, decide_eq_true (by omega), Bool.true_and]
    ·refine refput_W (e0.ok hM) ((nM.sl.ext e11).ext e39) (by omega) (by omega) fun M53 r' e53 n53 => ⟨e53.keep _, step_add (by omega) (by omega) (again M53 r' (e0.trans e53) (.inl (n53.old e0)) ?_)⟩
     rw [hnx]
     congr 1
     unfold wideF
     rw [decide_eq_false (by omega), Bool.and_false, Bool.false_and]
   ·refine refput_W (e0.ok hM) ((nM.sl.ext e11).ext e39) (by omega) (by omega) fun M53 r' e53 n53 => ⟨e53.keep _, step_add (by omega) (by omega) (again M53 r' (e0.trans e53) (.inl (n53.old e0)) ?_)⟩
    rw [hnx]
    congr 1
    unfold wideF
    rw [h7, Bool.false_and, Bool.false_and]
 ·exact blockK.hit (ref10_filled_c2_wp (q M' r eM (by rw [hfin (.inr (by omega))]; exact nM)))
 ·exact blockK.hit (ref10_filled_c2_wp (q M' r eM (by rw [hfin (.inl (by omega))]; exact nM)))
theorem labelsF_len (n : Nat) (D : List Dr) : (labelsF n D).length = n := by simp [labelsF]
theorem filledF_len (A : List Lv) (D O : List Dr) : (filledF A D O).length = A.length := by
 unfold filledF
 split
 ·simp [baseF]
 ·rw [fills_len]; simp [baseF]
def rowF (c : Int) (D O : List Dr) : List Ce := filledF (labelsF (c % 31).toNat D) D O
theorem rowF_len (c : Int) (D O : List Dr) : (rowF c D O).length = (c % 31).toNat := by unfold rowF; rw [filledF_len, labelsF_len]
theorem row_W (hM : M.base ≤ M.size) {c : Int} (hc : 0 ≤ c ∧ c ≤ 255) {dv : Value} {D : List Dr} (hD : SlH M dv D) (okD : ∀ d ∈ D, d.ok) (q : ∀ M' r, Ext M M' → Mine 42 M M' r (rowF c D []) → Q r M') : W funs known (.func (.func n_ref10_Line_Row) #[] #[]) [.agg #[.int .u8 c, dv]] M Q := by
 refine ref10_Line_Row_wp hM ⟨rfl, fun b1 M2 hb1 hM2 => ?_⟩
 have e2 : Ext M M2 := Ext.push' hM2
 refine labels_W (freeze_ok M2) hc (hD.ext e2).freeze fun M4 r3 e4 n4 => ⟨e4.keepF _, ?_⟩
 have e24 := Ext.thaw e4
 have e04 := e2.trans e24
 refine filled_W (e04.ok hM) (n4.sl.thaw (c := M2.base)) (hD.ext e04) (.inl (Sl.nil _)) okD (by simp) (by rw [labelsF_len]; omega) fun M6 r5 e6 n6 => ⟨e6.keep _, q M6 r5 (e04.trans e6) (n6.old e04)⟩
end
end Go.Proofs.Ytifemfnjoobiiaa.Run
