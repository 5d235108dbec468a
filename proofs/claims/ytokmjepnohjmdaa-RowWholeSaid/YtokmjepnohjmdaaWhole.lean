/- The law RowWhole of chapter 10, as a run of this session's own interpreter. -/
import Derived.Test.YtokmjepnohjmdaaRowPB
import Derived.Test.YtokmjepnohjmdaaVcF
namespace Go.Proofs.Ytokmjepnohjmdaa.Run
open Go Go.RowKit
set_option linter.unusedVariables false
set_option linter.unusedSimpArgs false

/-- what a put leaves alone -/
theorem put_out {L : List Ce} (w : Wh L) {i : Nat} {c : Ce} {wide : Bool} (hin : i + numC wide ≤ L.length) {k : Nat} {d : Ce} (hd : L[k]? = some d) (hk : k < i ∨ i + numC wide ≤ k) :
    (putF L i c wide)[k]? = some (if (k + 1 = i ∧ d.kind = 1) ∨ (k = i + numC wide ∧ d.kind = 2) then d.bare else d) := by
  have hn : numC wide = 1 ∨ numC wide = 2 := by unfold numC; split <;> simp
  have hkl := (List.getElem?_eq_some_iff.1 hd).1
  have hput : putF L i c wide = (brk2 L i (i + numC wide : Nat)).take i ++ putC c wide ++ (brk2 L i (i + numC wide : Nat)).drop (i + numC wide) := by
    unfold putF
    rw [putC_len, if_neg (by omega), Int.toNat_natCast, show ((i : Int) + (numC wide : Nat)) = ((i + numC wide : Nat) : Int) by omega, Int.toNat_natCast]
  have hg1 : ∀ k, (breakF L i)[k]? = (L[k]?).map fun c => if cutF L i = true ∧ (k + 1 = i ∨ k = i) then c.bare else c := fun k => by
    rw [breakF_get, clampN_nat (by omega)]
  have hg2 : ∀ k, (brk2 L i (i + numC wide : Nat))[k]? = ((breakF L i)[k]?).map fun c => if cutF (breakF L i) (i + numC wide) = true ∧ (k + 1 = i + numC wide ∨ k = i + numC wide) then c.bare else c := fun k => by
    unfold brk2
    rw [breakF_get, breakF_len, clampN_nat (by omega)]
  have hB : (brk2 L i (i + numC wide : Nat)).length = L.length := brk2_len _ _ _
  have hP := putC_len c wide
  have hget : (putF L i c wide)[k]? = (brk2 L i (i + numC wide : Nat))[k]? := by
    rw [hput]
    rcases hk with hk | hk
    · rw [List.getElem?_append_left (by rw [List.length_append, List.length_take]; omega), List.getElem?_append_left (by rw [List.length_take]; omega), List.getElem?_take, if_pos hk]
    · rw [List.getElem?_append_right (by rw [List.length_append, List.length_take]; omega), List.getElem?_drop]
      congr 1
      rw [List.length_append, List.length_take]; omega
  rw [hget, hg2, hg1, hd]
  simp only [Option.map_some, Option.some.injEq]
  have w1 := w.brk i
  rcases hk with hk | hk
  · rw [if_neg (by omega)]
    by_cases h : k + 1 = i ∧ d.kind = 1
    · rw [if_pos (Or.inl h : (k + 1 = i ∧ d.kind = 1) ∨ (k = i + numC wide ∧ d.kind = 2))]
      have hr := w.left k d hd h.2
      rw [if_pos ⟨cutF_iff.2 ⟨d, d.half, by omega, by rw [show i - 1 = k by omega]; exact hd, by rw [show i = k + 1 by omega]; exact hr, h.2, rfl⟩, .inl h.1⟩]
    · rw [if_neg (by omega : ¬ ((k + 1 = i ∧ d.kind = 1) ∨ (k = i + numC wide ∧ d.kind = 2))), if_neg]
      rintro ⟨hc, h1 | h1⟩
      · obtain ⟨a, b, _, ha, _, h2, _⟩ := cutF_iff.1 hc
        rw [show i - 1 = k by omega, hd] at ha
        cases ha
        exact h ⟨h1, h2⟩
      · omega
  · have e1 : (if cutF L i = true ∧ (k + 1 = i ∨ k = i) then d.bare else d) = d := if_neg (by omega)
    rw [e1]
    by_cases h : k = i + numC wide ∧ d.kind = 2
    · rw [if_pos (Or.inr h : (k + 1 = i ∧ d.kind = 1) ∨ (k = i + numC wide ∧ d.kind = 2)), if_pos]
      refine ⟨?_, .inr h.1⟩
      obtain ⟨j, e, hj, he, hk1, hk2⟩ := w.right k d hd h.2
      refine cutF_iff.2 ⟨e, d, by omega, ?_, ?_, hk1, h.2⟩
      · rw [hg1, show i + numC wide - 1 = j by omega, he, Option.map_some, if_neg]
        rintro ⟨hc, h1⟩
        obtain ⟨a, b, _, _, hb, _, h2⟩ := cutF_iff.1 hc
        rw [show i = j by omega, he] at hb
        cases hb; omega
      · rw [hg1, ← h.1, hd, Option.map_some, if_neg (by omega)]
    · rw [if_neg (by omega : ¬ ((k + 1 = i ∧ d.kind = 1) ∨ (k = i + numC wide ∧ d.kind = 2))), if_neg]
      rintro ⟨hc, h1 | h1⟩
      · omega
      · obtain ⟨a, b, _, _, hb, _, h2⟩ := cutF_iff.1 hc
        rw [← h1, hg1, hd, Option.map_some, if_neg (by omega)] at hb
        cases hb
        exact h ⟨h1, h2⟩
theorem put_in {L : List Ce} {i : Nat} {c : Ce} {wide : Bool} (hin : i + numC wide ≤ L.length) {k : Nat} (hk : k < numC wide) : (putF L i c wide)[i + k]? = (putC c wide)[k]? := by
  have hB : (brk2 L i (i + numC wide : Nat)).length = L.length := brk2_len _ _ _
  have hP := putC_len c wide
  unfold putF
  rw [putC_len, if_neg (by omega), Int.toNat_natCast, show ((i : Int) + (numC wide : Nat)) = ((i + numC wide : Nat) : Int) by omega, Int.toNat_natCast]
  rw [List.getElem?_append_left (by rw [List.length_append, List.length_take]; omega), List.getElem?_append_right (by rw [List.length_take]; omega), List.length_take]
  congr 1
  omega

theorem eqAt (a b : At9) : eqV true [0, 0, 0, 0, 0, 0, 0, 0, 0] (.agg a.cells.toArray) (.agg b.cells.toArray) = some (decide (a = b)) := by
  obtain ⟨a5, a6, a7, a8, a9, a10, a11, a12, a13⟩ := a
  obtain ⟨b5, b6, b7, b8, b9, b10, b11, b12, b13⟩ := b
  show eqCells [0, 0, 0, 0, 0, 0, 0, 0, 0] _ _ = _
  refine Eq.trans (eqCells_int (eqCells_int (eqCells_int (eqCells_int (eqCells_int (eqCells_int (eqCells_int (eqCells_int (eqCells_int eqCells_nil))))))))) ?_
  congr 1
  simp only [At9.mk.injEq, Bool.and_true]
  rw [Bool.eq_iff_iff]
  simp only [Bool.and_eq_true, decide_eq_true_eq]
theorem step_neqAt {P : Value → Prop} {a b : At9} (p : P (.bool (decide (a ≠ b)))) : ∃ v, binV .neq 2 [0, 0, 0, 0, 0, 0, 0, 0, 0] (.agg a.cells.toArray) (.agg b.cells.toArray) = some v ∧ P v := by
  refine ⟨.bool (decide (a ≠ b)), ?_, p⟩
  have h : binV .neq 2 [0, 0, 0, 0, 0, 0, 0, 0, 0] (.agg a.cells.toArray) (.agg b.cells.toArray) = (eqV true [0, 0, 0, 0, 0, 0, 0, 0, 0] (.agg a.cells.toArray) (.agg b.cells.toArray)).bind (negIf .neq) := rfl
  rw [h, eqAt]
  simp [negIf]

section
variable {M : Mem} {Q : Value → Mem → Prop}
theorem works_W' {M : Mem} (h : Q (.bool true) M) : W funs known (.func (.func n_law10_works) #[] #[]) [] M Q := W_known rfl h
abbrev woI (P : Mem) (b1 : Nat) (c : Int) (dv : Value) (T : List Ac) (lv : Value) : Nat → LS → Prop := fun k s => ∃ (i : Nat) (M' : Mem) (r : Value) (L : List Ce), s = law10_RowWhole_l1_s lv r (.int .i64 i) b1 (.int .u8 c) dv [] M' ∧ Ext P M' ∧ Mine 37 P M' r L ∧ Wh L ∧ L.length ≤ 40 ∧ i ≤ T.length ∧ k = T.length - i
theorem s_neSame {P : Value → Prop} {a : Ce} (p : P (.bool false)) : ∃ v, binV .neq 2 sig14 a.val a.val = some v ∧ P v := step_neqCe (by simpa using p)
theorem s_neAtSame {P : Value → Prop} {a : At9} (p : P (.bool false)) : ∃ v, binV .neq 2 [0, 0, 0, 0, 0, 0, 0, 0, 0] (.agg a.cells.toArray) (.agg a.cells.toArray) = some v ∧ P v := step_neqAt (by simpa using p)
abbrev wiI (M : Mem) (n : Nat) (lv r nx : Value) (i : Nat) (x w : Int) (b1 : Nat) (cv : Value) (dv : Value) (b6 : Nat) (C1 : List Value) (b30 : Nat) (C2 : List Value) : Nat → LS → Prop := fun k s => ∃ (m : Nat), s = law10_RowWhole_l9_s lv r (.int .i64 i) nx (.int .i64 x) (.int .i64 w) (.int .i64 m) b1 cv dv b6 C1 b30 C2 [] M ∧ m ≤ n ∧ k = n - m

set_option maxHeartbeats 2000000 in
theorem whole10_W (hM : M.base ≤ M.size) {c : Int} (hc : 0 ≤ c ∧ c ≤ 255) {dv lv : Value} {D : List Dr} {T : List Ac} (hD : Sl M dv D) (okD : ∀ d ∈ D, d.ok) (hT : Sl M lv T) (okT : ∀ a ∈ T, a.ok) (q : ∀ M', Q (.bool true) M') :
    W funs known (.func (.func n_law10_RowWhole) #[] #[]) [.agg #[.int .u8 c, dv], lv] M Q := by
  obtain ⟨a0, c0, rfl⟩ := hD.shape
  obtain ⟨a2, c2, rfl⟩ := hT.shape
  refine law10_RowWhole_wp hM ⟨rfl, fun b1 P hb1 hP => works_W' ⟨KeepB.refl _ _, _, rfl, wpIf.ff ?_⟩⟩
  have eP : Ext M P := Ext.push' hP
  have sP : P.size = M.size + 1 := by rw [hP]; rfl
  have kP := eP.ok hM
  refine row_W kP hc (hD.ext eP) okD fun M7 r e7 n7 => ⟨e7.keep _, ?_⟩
  refine ⟨law10_RowWhole_l1_m, woI P b1 c (.slice a0 D.length c0) T (.slice a2 T.length c2), ⟨T.length, 0, M7, r, rowF c D [], rfl, e7, n7, (row_ok c D []).1, by rw [rowF_len]; omega, Nat.zero_le _, rfl⟩, ?_⟩
  clear n7 e7
  rintro k s ⟨i, M', r, L, rfl, eM, nL0, wL, hlen, hi, rfl⟩
  have nL : Mine 37 P M' r L := nL0
  clear nL0
  refine law10_RowWhole_l1_wp (I := woI P b1 c (.slice a0 D.length c0) T (.slice a2 T.length c2)) ?_
  have kM := eM.ok kP
  refine step_len (step_lss (wpIf.dec (fun h1 => step_lss (wpIf.dec (fun h2 => ?_) (fun h2 => ?_))) (fun h1 => ?_)))
  · have hlt : i < T.length := by omega
    obtain ⟨a, ha⟩ : ∃ a, T[i]? = some a := ⟨_, List.getElem?_eq_getElem hlt⟩
    have oka := okT a (List.mem_of_getElem? ha)
    have e0 := eP.trans eM
    refine law10_RowWhole_c2_wp ?_
    refine rd (hT.ext e0) (by omega) (by rw [Int.toNat_natCast]; exact ha) fun _ => ⟨rfl, fun b6 N7 hb6 hN7 => ⟨⟨rfl, rfl, by decide⟩, fun M8 hM8 => ?_⟩⟩
    have f7 : Ext M' N7 := Ext.push' hN7
    have s7 : N7.size = M'.size + 1 := by rw [hN7]; rfl
    have f8 : Ext M' M8 := hM8 ▸ f7.set (by omega) (by omega) _
    refine LGetN.as a.val (by exact Nat.le_refl 9) rfl (does_W (f8.ok kM) oka (nL.sl.ext f8) (by omega) fun M11 r10 e11 n11 => ⟨e11.keep _, ?_⟩)
    have hN := doesF_len L a
    have wN := wL.does a
    refine whole_W (e11.ok (f8.ok kM)) n11.sl (by omega) fun M13 e13 => ⟨e13.keep _, _, rfl, ?_⟩
    rw [whole_iff.2 wN]
    refine wpIf.ff (LGetN.as a.val (by exact Nat.le_refl 9) rfl ?_)
    have f13 := (f8.trans e11).trans e13
    refine at_W (f13.ok kM) oka (nL.sl.ext f13) (by omega) fun M17 e17 => ⟨e17.keep _, ?_⟩
    have f17 := f13.trans e17
    have n17 := ((n11.ext e13).ext e17).old (eM.trans f8)
    have s17 := f17.size
    have hx := atF_in oka L.length
    have ow := oka.what
    have n17' : Mine 37 P M17 r10 (doesF a L) := .inl n17
    have again : ∀ Mz, Ext M17 Mz → ∃ j, j < T.length - i ∧ woI P b1 c (.slice a0 D.length c0) T (.slice a2 T.length c2) j (law10_RowWhole_l1_s (.slice a2 T.length c2) r10 (.int .i64 ((i : Int) + 1)) b1 (.int .u8 c) (.slice a0 D.length c0) [] Mz) :=
      fun Mz ez => ⟨T.length - (i + 1), by omega, i + 1, Mz, r10, doesF a L, rfl, (eM.trans f17).trans ez, n17'.ext ez, wN, by omega, by omega, rfl⟩
    refine LGet.mk (v := .bool a.wide) rfl (wpIf.mk (fun hw => law10_RowWhole_c4_wp (LGet.mk (v := .int .u8 a.what) rfl (step_rem8 (by omega) (by omega) ?_))) (fun hw => law10_RowWhole_c4_wp (LGet.mk (v := .int .u8 a.what) rfl (step_rem8 (by omega) (by omega) ?_))))
    · skip
      by_cases hput : (1 ≤ a.what % 15 ∧ a.what % 15 ≤ 4) ∧ 0 ≤ atF a L.length ∧ atF a L.length + (2 : Nat) ≤ L.length
      · obtain ⟨p, hp⟩ : ∃ p : Nat, atF a L.length = (p : Int) := ⟨(atF a L.length).toNat, by omega⟩
        have hdo : doesF a L = putF L p (cellF a.d) a.wide := by
          unfold doesF
          rw [if_neg (by omega), if_neg (by omega), if_neg (by omega), if_neg (by omega), if_neg (by omega), if_neg (by omega), if_neg (by omega), hp]
        rw [hp] at hput ⊢
        have hin : p + 2 ≤ L.length := by omega
        have k17 := f17.ok kM
        refine s_geT (by omega) (wpIf.tt (s_leT (by omega) (wpIf.tt (s_geT (by omega) (wpIf.tt (step_add (by omega) (by omega) (step_lenS (nL.sl.ext f17) (s_leT (by omega) (law10_RowWhole_c6_wp (wpIf.tt ?_))))))))))
        refine LGetN.as a.d.val (by exact Nat.le_refl 9) rfl (cell_W k17 oka.d fun M29 e29 => ⟨e29.keep _, rfl, fun b30 M31 hb30 hM31 => ⟨⟨rfl, rfl, by decide⟩, fun M32 hM32 => ⟨_, rfl, rfl, by exact Nat.lt_of_lt_of_le (by decide) (Nat.le_refl 14), fun M33 hM33 => ?_⟩⟩⟩)
        have e31 : Ext M17 M31 := e29.trans (Ext.push' hM31)
        have s29 := e29.size
        have s31 : M31.size = M29.size + 1 := by rw [hM31]; rfl
        have e32 : Ext M17 M32 := hM32 ▸ e31.set (by omega) (by omega) _
        have s32 : M32.size = M31.size := by rw [hM32]; rfl
        have e33 : Ext M17 M33 := hM33 ▸ e32.set (by omega) (by omega) _
        have s33 : M33.size = M32.size := by rw [hM33]; rfl
        refine LGet.mk (v := .bool true) (by rw [← hw]; rfl) ?_
        have hg0 : (doesF a L)[p]? = some ({ cellF a.d with kind := 1 } : Ce) := by
          rw [hdo]
          have := put_in (L := L) (i := p) (c := cellF a.d) (wide := a.wide) (by rw [hw]; exact hin) (k := 0) (by rw [hw]; decide)
          rw [hw] at this ⊢
          simpa [putC] using this
        have hg1 : (doesF a L)[p + 1]? = some (cellF a.d).half := by
          rw [hdo]
          have := put_in (L := L) (i := p) (c := cellF a.d) (wide := a.wide) (by rw [hw]; exact hin) (k := 1) (by rw [hw]; decide)
          rw [hw] at this ⊢
          simpa [putC] using this
        refine wpIf.tt ⟨_, rfl, rfl, by exact Nat.lt_of_lt_of_le (by decide) (Nat.le_refl 14), fun M36 hM36 => ?_⟩
        have e36 : Ext M17 M36 := hM36 ▸ e33.set (by omega) (by omega) _
        refine law10_RowWhole_c7_wp ?_
        refine rd (n17.sl.ext e36) (by omega) (by rw [Int.toNat_natCast]; exact hg0) fun _ => LGetN.as ({ cellF a.d with kind := 1 } : Ce).val (by exact Nat.le_refl 14) rfl (s_neSame (wpIf.ff ?_))
        refine LGet.mk (v := .bool true) (by rw [← hw]; rfl) (wpIf.tt (step_add (by omega) (by omega) ?_))
        refine rd_f (n17.sl.ext e36) (by omega) (by rw [show ((p : Int) + 1).toNat = p + 1 by omega]; exact hg1) (f := 3) rfl fun _ _ => s_neF (not_not_intro rfl) (wpIf.ff ?_)
        have slL : Sl M36 r L := nL.sl.ext (f17.trans e36)
        have slN : Sl M36 r10 (doesF a L) := n17.sl.ext e36
        rw [hdo] at slN
        have hout : ∀ (k : Nat) (d : Ce), L[k]? = some d → k < p ∨ p + 2 ≤ k → (putF L p (cellF a.d) a.wide)[k]? = some (if (k + 1 = p ∧ d.kind = 1) ∨ (k = p + 2 ∧ d.kind = 2) then d.bare else d) := fun k d hd hk => by
          have := put_out (c := cellF a.d) (wide := a.wide) wL (i := p) (by rw [hw]; simpa [numC] using hin) hd (by rw [hw]; simpa [numC] using hk)
          rw [hw] at this ⊢
          simpa [numC] using this
        have hinn : ∀ k : Nat, p ≤ k → k < p + 2 → ∃ n, (putF L p (cellF a.d) a.wide)[k]? = some n := fun k _ _ => ⟨_, List.getElem?_eq_getElem (by rw [putF_len]; omega)⟩
        generalize putF L p (cellF a.d) a.wide = N at slN hout hinn
        refine law10_RowWhole_c8_wp ?_
        refine ⟨law10_RowWhole_l9_m, wiI M36 L.length (.slice a2 T.length c2) r r10 i (p : Int) (2 : Nat) b1 (.int .u8 c) (.slice a0 D.length c0) b6 (Enc.enc a) b30 (Enc.enc ({ cellF a.d with kind := 1 } : Ce)), ⟨L.length, 0, rfl, Nat.zero_le _, rfl⟩, ?_⟩
        rintro k s ⟨m, rfl, hm, rfl⟩
        refine law10_RowWhole_l9_wp (I := wiI M36 L.length (.slice a2 T.length c2) r r10 i (p : Int) (2 : Nat) b1 (.int .u8 c) (.slice a0 D.length c0) b6 (Enc.enc a) b30 (Enc.enc ({ cellF a.d with kind := 1 } : Ce))) ?_
        refine step_lenS slL (step_lss (wpIf.dec (fun g1 => ?_) (fun g1 => ?_)))
        · obtain ⟨d, hd⟩ : ∃ d, L[m]? = some d := ⟨_, List.getElem?_eq_getElem (by omega)⟩
          refine step_sub (by omega) (by omega) ?_
          by_cases hr : p ≤ m ∧ m < p + 2
          · obtain ⟨n, hn⟩ := hinn m hr.1 hr.2
            refine s_eqF (by omega) (wpIf.ff (step_add (by omega) (by omega) (s_eqF (by omega) (wpIf.ff (law10_RowWhole_c10_wp ?_)))))
            refine s_ltF (by omega) (wpIf.ff (step_add (by omega) (by omega) (s_geF (by omega) (wpIf.ff (wpIf.ff ?_)))))
            exact step_add (by omega) (by omega) ⟨L.length - (m + 1), by omega, m + 1, rfl, by omega, rfl⟩
          have hn := hout m d hd (by omega)
          rcases (show (m + 1 = p ∧ d.kind = 1) ∨ (m = p + 2 ∧ d.kind = 2) ∨ (¬ (m + 1 = p ∧ d.kind = 1) ∧ ¬ (m = p + 2 ∧ d.kind = 2)) by omega) with hh | hh | hh
          · rw [if_pos (Or.inl hh : (m + 1 = p ∧ d.kind = 1) ∨ (m = p + 2 ∧ d.kind = 2))] at hn
            refine s_eqT (by omega) (wpIf.tt (rd_f slL (by omega) (by rw [Int.toNat_natCast]; exact hd) (f := 3) rfl fun _ _ => s_eqT hh.2 (wpIf.tt (law10_RowWhole_c10_wp ?_))))
            refine s_ltT (by omega) (wpIf.tt ?_)
            refine rd slN (by omega) (by rw [Int.toNat_natCast]; exact hn) fun _ => rd slL (by omega) (by rw [Int.toNat_natCast]; exact hd) fun _ => step_neqCe (wpIf.dec (fun _ => ?_) (fun _ => ?_))
            · refine step_not (wpIf.ff ?_)
              refine wpIf.tt ?_
              refine rd_f (a := d.bare) slN (by omega) (by rw [Int.toNat_natCast]; exact hn) (f := 0) rfl fun _ _ => s_neF (not_not_intro rfl) (wpIf.ff ?_)
              refine rd_f (a := d.bare) slN (by omega) (by rw [Int.toNat_natCast]; exact hn) (f := 13) rfl fun _ _ => rd_f (a := d) slL (by omega) (by rw [Int.toNat_natCast]; exact hd) (f := 13) rfl fun _ _ => s_neF (not_not_intro rfl) (wpIf.ff ?_)
              refine rd_fs (a := d.bare) slN (by omega) (by rw [Int.toNat_natCast]; exact hn) (f := 4) (n := 9) (l := d.attr.cells) rfl (by decide) fun _ _ => rd_fs (a := d) slL (by omega) (by rw [Int.toNat_natCast]; exact hd) (f := 4) (n := 9) (l := d.attr.cells) rfl (by decide) fun _ _ => s_neAtSame (wpIf.ff ?_)
              exact step_add (by omega) (by omega) ⟨L.length - (m + 1), by omega, m + 1, rfl, by omega, rfl⟩
            · skip
              refine wpIf.tt ?_
              refine rd_f (a := d.bare) slN (by omega) (by rw [Int.toNat_natCast]; exact hn) (f := 0) rfl fun _ _ => s_neF (not_not_intro rfl) (wpIf.ff ?_)
              refine rd_f (a := d.bare) slN (by omega) (by rw [Int.toNat_natCast]; exact hn) (f := 13) rfl fun _ _ => rd_f (a := d) slL (by omega) (by rw [Int.toNat_natCast]; exact hd) (f := 13) rfl fun _ _ => s_neF (not_not_intro rfl) (wpIf.ff ?_)
              refine rd_fs (a := d.bare) slN (by omega) (by rw [Int.toNat_natCast]; exact hn) (f := 4) (n := 9) (l := d.attr.cells) rfl (by decide) fun _ _ => rd_fs (a := d) slL (by omega) (by rw [Int.toNat_natCast]; exact hd) (f := 4) (n := 9) (l := d.attr.cells) rfl (by decide) fun _ _ => s_neAtSame (wpIf.ff ?_)
              exact step_add (by omega) (by omega) ⟨L.length - (m + 1), by omega, m + 1, rfl, by omega, rfl⟩
          · rw [if_pos (Or.inr hh : (m + 1 = p ∧ d.kind = 1) ∨ (m = p + 2 ∧ d.kind = 2))] at hn
            refine s_eqF (by omega) (wpIf.ff (step_add (by omega) (by omega) (s_eqT (by omega) (wpIf.tt (rd_f slL (by omega) (by rw [Int.toNat_natCast]; exact hd) (f := 3) rfl fun _ _ => s_eqT hh.2 (law10_RowWhole_c10_wp ?_))))))
            refine s_ltF (by omega) (wpIf.ff (step_add (by omega) (by omega) (s_geT (by omega) (wpIf.tt ?_))))
            refine rd slN (by omega) (by rw [Int.toNat_natCast]; exact hn) fun _ => rd slL (by omega) (by rw [Int.toNat_natCast]; exact hd) fun _ => step_neqCe (wpIf.dec (fun _ => ?_) (fun _ => ?_))
            · refine step_not (wpIf.ff ?_)
              refine wpIf.tt ?_
              refine rd_f (a := d.bare) slN (by omega) (by rw [Int.toNat_natCast]; exact hn) (f := 0) rfl fun _ _ => s_neF (not_not_intro rfl) (wpIf.ff ?_)
              refine rd_f (a := d.bare) slN (by omega) (by rw [Int.toNat_natCast]; exact hn) (f := 13) rfl fun _ _ => rd_f (a := d) slL (by omega) (by rw [Int.toNat_natCast]; exact hd) (f := 13) rfl fun _ _ => s_neF (not_not_intro rfl) (wpIf.ff ?_)
              refine rd_fs (a := d.bare) slN (by omega) (by rw [Int.toNat_natCast]; exact hn) (f := 4) (n := 9) (l := d.attr.cells) rfl (by decide) fun _ _ => rd_fs (a := d) slL (by omega) (by rw [Int.toNat_natCast]; exact hd) (f := 4) (n := 9) (l := d.attr.cells) rfl (by decide) fun _ _ => s_neAtSame (wpIf.ff ?_)
              exact step_add (by omega) (by omega) ⟨L.length - (m + 1), by omega, m + 1, rfl, by omega, rfl⟩
            · skip
              refine wpIf.tt ?_
              refine rd_f (a := d.bare) slN (by omega) (by rw [Int.toNat_natCast]; exact hn) (f := 0) rfl fun _ _ => s_neF (not_not_intro rfl) (wpIf.ff ?_)
              refine rd_f (a := d.bare) slN (by omega) (by rw [Int.toNat_natCast]; exact hn) (f := 13) rfl fun _ _ => rd_f (a := d) slL (by omega) (by rw [Int.toNat_natCast]; exact hd) (f := 13) rfl fun _ _ => s_neF (not_not_intro rfl) (wpIf.ff ?_)
              refine rd_fs (a := d.bare) slN (by omega) (by rw [Int.toNat_natCast]; exact hn) (f := 4) (n := 9) (l := d.attr.cells) rfl (by decide) fun _ _ => rd_fs (a := d) slL (by omega) (by rw [Int.toNat_natCast]; exact hd) (f := 4) (n := 9) (l := d.attr.cells) rfl (by decide) fun _ _ => s_neAtSame (wpIf.ff ?_)
              exact step_add (by omega) (by omega) ⟨L.length - (m + 1), by omega, m + 1, rfl, by omega, rfl⟩
          · rw [if_neg (by omega : ¬ ((m + 1 = p ∧ d.kind = 1) ∨ (m = p + 2 ∧ d.kind = 2)))] at hn
            by_cases h3 : m + 1 = p
            · refine s_eqT (by omega) (wpIf.tt (rd_f slL (by omega) (by rw [Int.toNat_natCast]; exact hd) (f := 3) rfl fun _ _ => s_eqF (by omega) (wpIf.ff (step_add (by omega) (by omega) (s_eqF (by omega) (wpIf.ff (law10_RowWhole_c10_wp ?_)))))))
              refine s_ltT (by omega) (wpIf.tt ?_)
              refine rd slN (by omega) (by rw [Int.toNat_natCast]; exact hn) fun _ => rd slL (by omega) (by rw [Int.toNat_natCast]; exact hd) fun _ => s_neSame (wpIf.ff (wpIf.ff ?_))
              exact step_add (by omega) (by omega) ⟨L.length - (m + 1), by omega, m + 1, rfl, by omega, rfl⟩
            · refine s_eqF (by omega) (wpIf.ff (step_add (by omega) (by omega) ?_))
              by_cases h4 : m = p + 2
              · refine s_eqT (by omega) (wpIf.tt (rd_f slL (by omega) (by rw [Int.toNat_natCast]; exact hd) (f := 3) rfl fun _ _ => s_eqF (by omega) (law10_RowWhole_c10_wp ?_)))
                refine s_ltF (by omega) (wpIf.ff (step_add (by omega) (by omega) (s_geT (by omega) (wpIf.tt ?_))))
                refine rd slN (by omega) (by rw [Int.toNat_natCast]; exact hn) fun _ => rd slL (by omega) (by rw [Int.toNat_natCast]; exact hd) fun _ => s_neSame (wpIf.ff (wpIf.ff ?_))
                exact step_add (by omega) (by omega) ⟨L.length - (m + 1), by omega, m + 1, rfl, by omega, rfl⟩
              · refine s_eqF (by omega) (wpIf.ff (law10_RowWhole_c10_wp ?_))
                by_cases h5 : m < p
                · refine s_ltT (by omega) (wpIf.tt ?_)
                  refine rd slN (by omega) (by rw [Int.toNat_natCast]; exact hn) fun _ => rd slL (by omega) (by rw [Int.toNat_natCast]; exact hd) fun _ => s_neSame (wpIf.ff (wpIf.ff ?_))
                  exact step_add (by omega) (by omega) ⟨L.length - (m + 1), by omega, m + 1, rfl, by omega, rfl⟩
                · refine s_ltF (by omega) (wpIf.ff (step_add (by omega) (by omega) (s_geT (by omega) (wpIf.tt ?_))))
                  refine rd slN (by omega) (by rw [Int.toNat_natCast]; exact hn) fun _ => rd slL (by omega) (by rw [Int.toNat_natCast]; exact hd) fun _ => s_neSame (wpIf.ff (wpIf.ff ?_))
                  exact step_add (by omega) (by omega) ⟨L.length - (m + 1), by omega, m + 1, rfl, by omega, rfl⟩
        · refine law10_RowWhole_l9_out ?_
          refine law10_RowWhole_c5_wp (law10_RowWhole_c3_wp ?_)
          exact step_add (by omega) (by omega) (again M36 e36)
      · refine step_geq (wpIf.dec (fun g1 => step_leq (wpIf.dec (fun g2 => step_geq (wpIf.dec (fun g3 => step_add (by omega) (by omega) (step_lenS (nL.sl.ext f17) (s_leF (by omega) (law10_RowWhole_c6_wp (wpIf.ff ?_))))) (fun g3 => law10_RowWhole_c6_wp (wpIf.ff ?_)))) (fun g2 => law10_RowWhole_c6_wp (wpIf.ff ?_)))) (fun g1 => law10_RowWhole_c6_wp (wpIf.ff ?_)))
        all_goals exact law10_RowWhole_c5_wp (law10_RowWhole_c3_wp (step_add (by omega) (by omega) (again _ (Ext.refl _))))
    · skip
      by_cases hput : (1 ≤ a.what % 15 ∧ a.what % 15 ≤ 4) ∧ 0 ≤ atF a L.length ∧ atF a L.length + (1 : Nat) ≤ L.length
      · obtain ⟨p, hp⟩ : ∃ p : Nat, atF a L.length = (p : Int) := ⟨(atF a L.length).toNat, by omega⟩
        have hdo : doesF a L = putF L p (cellF a.d) a.wide := by
          unfold doesF
          rw [if_neg (by omega), if_neg (by omega), if_neg (by omega), if_neg (by omega), if_neg (by omega), if_neg (by omega), if_neg (by omega), hp]
        rw [hp] at hput ⊢
        have hin : p + 1 ≤ L.length := by omega
        have k17 := f17.ok kM
        refine s_geT (by omega) (wpIf.tt (s_leT (by omega) (wpIf.tt (s_geT (by omega) (wpIf.tt (step_add (by omega) (by omega) (step_lenS (nL.sl.ext f17) (s_leT (by omega) (law10_RowWhole_c6_wp (wpIf.tt ?_))))))))))
        refine LGetN.as a.d.val (by exact Nat.le_refl 9) rfl (cell_W k17 oka.d fun M29 e29 => ⟨e29.keep _, rfl, fun b30 M31 hb30 hM31 => ⟨⟨rfl, rfl, by decide⟩, fun M32 hM32 => ⟨_, rfl, rfl, by exact Nat.lt_of_lt_of_le (by decide) (Nat.le_refl 14), fun M33 hM33 => ?_⟩⟩⟩)
        have e31 : Ext M17 M31 := e29.trans (Ext.push' hM31)
        have s29 := e29.size
        have s31 : M31.size = M29.size + 1 := by rw [hM31]; rfl
        have e32 : Ext M17 M32 := hM32 ▸ e31.set (by omega) (by omega) _
        have s32 : M32.size = M31.size := by rw [hM32]; rfl
        have e33 : Ext M17 M33 := hM33 ▸ e32.set (by omega) (by omega) _
        have s33 : M33.size = M32.size := by rw [hM33]; rfl
        refine LGet.mk (v := .bool false) (by rw [← hw]; rfl) ?_
        have hg0 : (doesF a L)[p]? = some ({ cellF a.d with kind := 0 } : Ce) := by
          rw [hdo]
          have := put_in (L := L) (i := p) (c := cellF a.d) (wide := a.wide) (by rw [hw]; exact hin) (k := 0) (by rw [hw]; decide)
          rw [hw] at this ⊢
          simpa [putC] using this
        refine wpIf.ff (law10_RowWhole_c7_wp ?_)
        refine rd (n17.sl.ext e33) (by omega) (by rw [Int.toNat_natCast]; exact hg0) fun _ => LGetN.as ({ cellF a.d with kind := 0 } : Ce).val (by exact Nat.le_refl 14) rfl (s_neSame (wpIf.ff ?_))
        refine LGet.mk (v := .bool false) (by rw [← hw]; rfl) (wpIf.ff ?_)
        have slL : Sl M33 r L := nL.sl.ext (f17.trans e33)
        have slN : Sl M33 r10 (doesF a L) := n17.sl.ext e33
        rw [hdo] at slN
        have hout : ∀ (k : Nat) (d : Ce), L[k]? = some d → k < p ∨ p + 1 ≤ k → (putF L p (cellF a.d) a.wide)[k]? = some (if (k + 1 = p ∧ d.kind = 1) ∨ (k = p + 1 ∧ d.kind = 2) then d.bare else d) := fun k d hd hk => by
          have := put_out (c := cellF a.d) (wide := a.wide) wL (i := p) (by rw [hw]; simpa [numC] using hin) hd (by rw [hw]; simpa [numC] using hk)
          rw [hw] at this ⊢
          simpa [numC] using this
        have hinn : ∀ k : Nat, p ≤ k → k < p + 1 → ∃ n, (putF L p (cellF a.d) a.wide)[k]? = some n := fun k _ _ => ⟨_, List.getElem?_eq_getElem (by rw [putF_len]; omega)⟩
        generalize putF L p (cellF a.d) a.wide = N at slN hout hinn
        refine law10_RowWhole_c8_wp ?_
        refine ⟨law10_RowWhole_l9_m, wiI M33 L.length (.slice a2 T.length c2) r r10 i (p : Int) (1 : Nat) b1 (.int .u8 c) (.slice a0 D.length c0) b6 (Enc.enc a) b30 (Enc.enc ({ cellF a.d with kind := 0 } : Ce)), ⟨L.length, 0, rfl, Nat.zero_le _, rfl⟩, ?_⟩
        rintro k s ⟨m, rfl, hm, rfl⟩
        refine law10_RowWhole_l9_wp (I := wiI M33 L.length (.slice a2 T.length c2) r r10 i (p : Int) (1 : Nat) b1 (.int .u8 c) (.slice a0 D.length c0) b6 (Enc.enc a) b30 (Enc.enc ({ cellF a.d with kind := 0 } : Ce))) ?_
        refine step_lenS slL (step_lss (wpIf.dec (fun g1 => ?_) (fun g1 => ?_)))
        · obtain ⟨d, hd⟩ : ∃ d, L[m]? = some d := ⟨_, List.getElem?_eq_getElem (by omega)⟩
          refine step_sub (by omega) (by omega) ?_
          by_cases hr : p ≤ m ∧ m < p + 1
          · obtain ⟨n, hn⟩ := hinn m hr.1 hr.2
            refine s_eqF (by omega) (wpIf.ff (step_add (by omega) (by omega) (s_eqF (by omega) (wpIf.ff (law10_RowWhole_c10_wp ?_)))))
            refine s_ltF (by omega) (wpIf.ff (step_add (by omega) (by omega) (s_geF (by omega) (wpIf.ff (wpIf.ff ?_)))))
            exact step_add (by omega) (by omega) ⟨L.length - (m + 1), by omega, m + 1, rfl, by omega, rfl⟩
          have hn := hout m d hd (by omega)
          rcases (show (m + 1 = p ∧ d.kind = 1) ∨ (m = p + 1 ∧ d.kind = 2) ∨ (¬ (m + 1 = p ∧ d.kind = 1) ∧ ¬ (m = p + 1 ∧ d.kind = 2)) by omega) with hh | hh | hh
          · rw [if_pos (Or.inl hh : (m + 1 = p ∧ d.kind = 1) ∨ (m = p + 1 ∧ d.kind = 2))] at hn
            refine s_eqT (by omega) (wpIf.tt (rd_f slL (by omega) (by rw [Int.toNat_natCast]; exact hd) (f := 3) rfl fun _ _ => s_eqT hh.2 (wpIf.tt (law10_RowWhole_c10_wp ?_))))
            refine s_ltT (by omega) (wpIf.tt ?_)
            refine rd slN (by omega) (by rw [Int.toNat_natCast]; exact hn) fun _ => rd slL (by omega) (by rw [Int.toNat_natCast]; exact hd) fun _ => step_neqCe (wpIf.dec (fun _ => ?_) (fun _ => ?_))
            · refine step_not (wpIf.ff ?_)
              refine wpIf.tt ?_
              refine rd_f (a := d.bare) slN (by omega) (by rw [Int.toNat_natCast]; exact hn) (f := 0) rfl fun _ _ => s_neF (not_not_intro rfl) (wpIf.ff ?_)
              refine rd_f (a := d.bare) slN (by omega) (by rw [Int.toNat_natCast]; exact hn) (f := 13) rfl fun _ _ => rd_f (a := d) slL (by omega) (by rw [Int.toNat_natCast]; exact hd) (f := 13) rfl fun _ _ => s_neF (not_not_intro rfl) (wpIf.ff ?_)
              refine rd_fs (a := d.bare) slN (by omega) (by rw [Int.toNat_natCast]; exact hn) (f := 4) (n := 9) (l := d.attr.cells) rfl (by decide) fun _ _ => rd_fs (a := d) slL (by omega) (by rw [Int.toNat_natCast]; exact hd) (f := 4) (n := 9) (l := d.attr.cells) rfl (by decide) fun _ _ => s_neAtSame (wpIf.ff ?_)
              exact step_add (by omega) (by omega) ⟨L.length - (m + 1), by omega, m + 1, rfl, by omega, rfl⟩
            · skip
              refine wpIf.tt ?_
              refine rd_f (a := d.bare) slN (by omega) (by rw [Int.toNat_natCast]; exact hn) (f := 0) rfl fun _ _ => s_neF (not_not_intro rfl) (wpIf.ff ?_)
              refine rd_f (a := d.bare) slN (by omega) (by rw [Int.toNat_natCast]; exact hn) (f := 13) rfl fun _ _ => rd_f (a := d) slL (by omega) (by rw [Int.toNat_natCast]; exact hd) (f := 13) rfl fun _ _ => s_neF (not_not_intro rfl) (wpIf.ff ?_)
              refine rd_fs (a := d.bare) slN (by omega) (by rw [Int.toNat_natCast]; exact hn) (f := 4) (n := 9) (l := d.attr.cells) rfl (by decide) fun _ _ => rd_fs (a := d) slL (by omega) (by rw [Int.toNat_natCast]; exact hd) (f := 4) (n := 9) (l := d.attr.cells) rfl (by decide) fun _ _ => s_neAtSame (wpIf.ff ?_)
              exact step_add (by omega) (by omega) ⟨L.length - (m + 1), by omega, m + 1, rfl, by omega, rfl⟩
          · rw [if_pos (Or.inr hh : (m + 1 = p ∧ d.kind = 1) ∨ (m = p + 1 ∧ d.kind = 2))] at hn
            refine s_eqF (by omega) (wpIf.ff (step_add (by omega) (by omega) (s_eqT (by omega) (wpIf.tt (rd_f slL (by omega) (by rw [Int.toNat_natCast]; exact hd) (f := 3) rfl fun _ _ => s_eqT hh.2 (law10_RowWhole_c10_wp ?_))))))
            refine s_ltF (by omega) (wpIf.ff (step_add (by omega) (by omega) (s_geT (by omega) (wpIf.tt ?_))))
            refine rd slN (by omega) (by rw [Int.toNat_natCast]; exact hn) fun _ => rd slL (by omega) (by rw [Int.toNat_natCast]; exact hd) fun _ => step_neqCe (wpIf.dec (fun _ => ?_) (fun _ => ?_))
            · refine step_not (wpIf.ff ?_)
              refine wpIf.tt ?_
              refine rd_f (a := d.bare) slN (by omega) (by rw [Int.toNat_natCast]; exact hn) (f := 0) rfl fun _ _ => s_neF (not_not_intro rfl) (wpIf.ff ?_)
              refine rd_f (a := d.bare) slN (by omega) (by rw [Int.toNat_natCast]; exact hn) (f := 13) rfl fun _ _ => rd_f (a := d) slL (by omega) (by rw [Int.toNat_natCast]; exact hd) (f := 13) rfl fun _ _ => s_neF (not_not_intro rfl) (wpIf.ff ?_)
              refine rd_fs (a := d.bare) slN (by omega) (by rw [Int.toNat_natCast]; exact hn) (f := 4) (n := 9) (l := d.attr.cells) rfl (by decide) fun _ _ => rd_fs (a := d) slL (by omega) (by rw [Int.toNat_natCast]; exact hd) (f := 4) (n := 9) (l := d.attr.cells) rfl (by decide) fun _ _ => s_neAtSame (wpIf.ff ?_)
              exact step_add (by omega) (by omega) ⟨L.length - (m + 1), by omega, m + 1, rfl, by omega, rfl⟩
            · skip
              refine wpIf.tt ?_
              refine rd_f (a := d.bare) slN (by omega) (by rw [Int.toNat_natCast]; exact hn) (f := 0) rfl fun _ _ => s_neF (not_not_intro rfl) (wpIf.ff ?_)
              refine rd_f (a := d.bare) slN (by omega) (by rw [Int.toNat_natCast]; exact hn) (f := 13) rfl fun _ _ => rd_f (a := d) slL (by omega) (by rw [Int.toNat_natCast]; exact hd) (f := 13) rfl fun _ _ => s_neF (not_not_intro rfl) (wpIf.ff ?_)
              refine rd_fs (a := d.bare) slN (by omega) (by rw [Int.toNat_natCast]; exact hn) (f := 4) (n := 9) (l := d.attr.cells) rfl (by decide) fun _ _ => rd_fs (a := d) slL (by omega) (by rw [Int.toNat_natCast]; exact hd) (f := 4) (n := 9) (l := d.attr.cells) rfl (by decide) fun _ _ => s_neAtSame (wpIf.ff ?_)
              exact step_add (by omega) (by omega) ⟨L.length - (m + 1), by omega, m + 1, rfl, by omega, rfl⟩
          · rw [if_neg (by omega : ¬ ((m + 1 = p ∧ d.kind = 1) ∨ (m = p + 1 ∧ d.kind = 2)))] at hn
            by_cases h3 : m + 1 = p
            · refine s_eqT (by omega) (wpIf.tt (rd_f slL (by omega) (by rw [Int.toNat_natCast]; exact hd) (f := 3) rfl fun _ _ => s_eqF (by omega) (wpIf.ff (step_add (by omega) (by omega) (s_eqF (by omega) (wpIf.ff (law10_RowWhole_c10_wp ?_)))))))
              refine s_ltT (by omega) (wpIf.tt ?_)
              refine rd slN (by omega) (by rw [Int.toNat_natCast]; exact hn) fun _ => rd slL (by omega) (by rw [Int.toNat_natCast]; exact hd) fun _ => s_neSame (wpIf.ff (wpIf.ff ?_))
              exact step_add (by omega) (by omega) ⟨L.length - (m + 1), by omega, m + 1, rfl, by omega, rfl⟩
            · refine s_eqF (by omega) (wpIf.ff (step_add (by omega) (by omega) ?_))
              by_cases h4 : m = p + 1
              · refine s_eqT (by omega) (wpIf.tt (rd_f slL (by omega) (by rw [Int.toNat_natCast]; exact hd) (f := 3) rfl fun _ _ => s_eqF (by omega) (law10_RowWhole_c10_wp ?_)))
                refine s_ltF (by omega) (wpIf.ff (step_add (by omega) (by omega) (s_geT (by omega) (wpIf.tt ?_))))
                refine rd slN (by omega) (by rw [Int.toNat_natCast]; exact hn) fun _ => rd slL (by omega) (by rw [Int.toNat_natCast]; exact hd) fun _ => s_neSame (wpIf.ff (wpIf.ff ?_))
                exact step_add (by omega) (by omega) ⟨L.length - (m + 1), by omega, m + 1, rfl, by omega, rfl⟩
              · refine s_eqF (by omega) (wpIf.ff (law10_RowWhole_c10_wp ?_))
                by_cases h5 : m < p
                · refine s_ltT (by omega) (wpIf.tt ?_)
                  refine rd slN (by omega) (by rw [Int.toNat_natCast]; exact hn) fun _ => rd slL (by omega) (by rw [Int.toNat_natCast]; exact hd) fun _ => s_neSame (wpIf.ff (wpIf.ff ?_))
                  exact step_add (by omega) (by omega) ⟨L.length - (m + 1), by omega, m + 1, rfl, by omega, rfl⟩
                · refine s_ltF (by omega) (wpIf.ff (step_add (by omega) (by omega) (s_geT (by omega) (wpIf.tt ?_))))
                  refine rd slN (by omega) (by rw [Int.toNat_natCast]; exact hn) fun _ => rd slL (by omega) (by rw [Int.toNat_natCast]; exact hd) fun _ => s_neSame (wpIf.ff (wpIf.ff ?_))
                  exact step_add (by omega) (by omega) ⟨L.length - (m + 1), by omega, m + 1, rfl, by omega, rfl⟩
        · refine law10_RowWhole_l9_out ?_
          refine law10_RowWhole_c5_wp (law10_RowWhole_c3_wp ?_)
          exact step_add (by omega) (by omega) (again M33 e33)
      · refine step_geq (wpIf.dec (fun g1 => step_leq (wpIf.dec (fun g2 => step_geq (wpIf.dec (fun g3 => step_add (by omega) (by omega) (step_lenS (nL.sl.ext f17) (s_leF (by omega) (law10_RowWhole_c6_wp (wpIf.ff ?_))))) (fun g3 => law10_RowWhole_c6_wp (wpIf.ff ?_)))) (fun g2 => law10_RowWhole_c6_wp (wpIf.ff ?_)))) (fun g1 => law10_RowWhole_c6_wp (wpIf.ff ?_)))
        all_goals exact law10_RowWhole_c5_wp (law10_RowWhole_c3_wp (step_add (by omega) (by omega) (again _ (Ext.refl _))))
  · exact blockK.hit (law10_RowWhole_c0_wp (q _))
  · exact blockK.hit (law10_RowWhole_c0_wp (q _))
end
end Go.Proofs.Ytokmjepnohjmdaa.Run
