/- The law ComposeBlind of chapter 30, as a run of this session's own interpreter. -/
import Derived.Test.YtkelbhcaecojkaaTiles
import Derived.Test.YtkelbhcaecojkaaOnly
import Derived.Test.YtkelbhcaecojkaaVcL
namespace Go.Proofs.Ytkelbhcaecojkaa.Run
open Go Go.RowKit
set_option linter.unusedVariables false
set_option linter.unusedSimpArgs false

section
variable {α : Type} [E : Enc α] {PM : Value → Mem → Prop}
/-- a field of one of a row of one's own is set: nothing else turns -/
theorem wr_fk {ty : TypeId} {M₀ M : Mem} (e : Ext M₀ M) (hb : M₀.base ≤ M₀.size) {v : Value} {L : List α} (h : New ty M₀ M v L) {i : Nat} {a : α} (a' : α) (hi : L[i]? = some a) {f : Nat} (hf : f < E.k) {x : Value} (hx : splice (E.enc a) f [x] = E.enc a') (hx1 : x.cells.toList = [x]) (hx2 : notTup x = true) {j : IntKind}
    (q : ∀ u M', Ext M₀ M' → New ty M₀ M' v (L.set i a') → (∀ c, c < M.size → blk v ≠ some c → M'.get c = M.get c) → PM u M') :
    ∃ p, opSem (.addrL E.k (.const v) (.const (.int j (i : Int)))) [] M = some (p, M) ∧ ∃ p', opSem (.fieldAddr f (.const p)) [] M = some (p', M) ∧ ∃ u M', opSem (.store 1 (.const p') (.const x)) [] M = some (u, M') ∧ PM u M' := by
  obtain ⟨b, sp, rfl, h1, h2⟩ := h
  have hbs := Mem.lt_of_get h1
  have eb := e.base
  have hil := (List.getElem?_eq_some_iff.1 hi).1
  refine ⟨.pointer (some ⟨b, 0 + i * E.k, none⟩), ?_, .pointer (some ⟨b, 0 + i * E.k + f, none⟩), rfl, undef, M.set b (.cells (flat (L.set i a')) ty true), ?_, q _ _ (e.set h2 hbs _) ⟨b, sp, by rw [List.length_set], by rw [Mem.get_set _ _ _ hbs, if_pos rfl], h2⟩ fun c hc hne => ?_⟩
  · simp only [opSem, ev]
    rw [if_pos ⟨by omega, by omega⟩, Int.toNat_natCast]
  · have hsz : x.cells.size = 1 := by have := congrArg List.length hx1; simpa using this
    have hput : splice (flat L) (0 + i * E.k + f) [x] = flat (L.set i a') := by
      have := flat_put (E := E) (L := L) (i := i) (a := a) (a' := a') hi (f := f) (vs := [x]) (by simp only [List.length_singleton]; omega) hx
      rw [Nat.zero_add]; exact this
    have hlen : (flat L).length = L.length * E.k := flat_len L
    have hmul : (i + 1) * E.k ≤ L.length * E.k := Nat.mul_le_mul_right _ hil
    rw [Nat.add_mul, Nat.one_mul] at hmul
    have : M.storeQ b (0 + i * E.k + f) [x] = some (M.set b (.cells (flat (L.set i a')) ty true)) := by
      simp only [Mem.storeQ, Mem.storeN, h1]
      rw [if_pos ⟨by omega, by rw [hlen, List.length_singleton]; omega⟩, hput]
    simp only [opSem, ev, hsz, hx2, hx1, and_self, if_true, this, Option.map_some]
  · rw [Mem.get_set _ _ _ hbs, if_neg]
    intro hcb; exact hne (by simp [blk, hcb])
end

theorem other_lb (c : Int) (T U : Lns) : LbG (otherG c T U) := fun L hL => by
  obtain ⟨p, _, O, rfl⟩ := other_in hL
  exact (row_ok _ _ _).2
theorem LowG.lb {A B : Gd} (h : LowG A B) (l : LbG A) : LbG B := fun K hK d hd => by
  obtain ⟨i, hi⟩ := List.mem_iff_getElem?.1 hK
  obtain ⟨L, hL⟩ : ∃ L, A[i]? = some L := ⟨_, List.getElem?_eq_getElem (by have := (List.getElem?_eq_some_iff.1 hi).1; have := h.len; omega)⟩
  have r := h.row i L K hL hi
  obtain ⟨k, hk⟩ := List.mem_iff_getElem?.1 hd
  obtain ⟨c, hc⟩ : ∃ c, L[k]? = some c := ⟨_, List.getElem?_eq_getElem (by have := (List.getElem?_eq_some_iff.1 hk).1; have := r.len; omega)⟩
  rw [← (r.at' k c d hc hk).1]
  exact l L (List.mem_of_getElem? hL) c (List.mem_of_getElem? hc)
theorem LowG.refl (G : Gd) : LowG G G := ⟨rfl, fun i L K hL hK => by rw [hL] at hK; cases hK; exact Low.refl _⟩
/-- two tiles that are alike to Low -/
structure PairOK (a b : Tl × Gd) : Prop where
  r : a.1.r = b.1.r
  wa : WhG a.2
  wb : WhG b.2
  la : LbG a.2
  lb : LbG b.2
  low : LowG a.2 b.2
  oa : TlOK a
  ob : TlOK b
structure Pairs (T U : Tls) : Prop where
  len : T.length = U.length
  ok : ∀ (i : Nat) (a b : Tl × Gd), T[i]? = some a → U[i]? = some b → PairOK a b
theorem Pairs.lowT : ∀ {T U : Tls}, Pairs T U → LowT T U
  | [], [], _ => .nil
  | [], _ :: _, h => absurd h.len (by simp)
  | _ :: _, [], h => absurd h.len (by simp)
  | a :: T, b :: U, h =>
    let k := h.ok 0 a b rfl rfl
    .cons k.r k.wa k.wb k.la k.lb k.low (Pairs.lowT ⟨by have := h.len; simpa using this, fun i x y hx hy => h.ok (i + 1) x y hx hy⟩)
theorem Pairs.set {T U : Tls} (h : Pairs T U) {i : Nat} {a b : Tl × Gd} (ha : T[i]? = some a) (hp : PairOK a b) : Pairs T (U.set i b) := by
  refine ⟨by rw [List.length_set]; exact h.len, fun j x y hx hy => ?_⟩
  rw [List.getElem?_set] at hy
  split at hy
  · rename_i hij
    subst hij
    split at hy
    · cases hy; rw [ha] at hx; cases hx; exact hp
    · cases hy
  · exact h.ok j x y hx hy
theorem Pairs.left {T U : Tls} (h : Pairs T U) : ∀ a ∈ T, TlOK a := fun a ha => by
  obtain ⟨i, hi⟩ := List.mem_iff_getElem?.1 ha
  obtain ⟨b, hb⟩ : ∃ b, U[i]? = some b := ⟨_, List.getElem?_eq_getElem (by have := (List.getElem?_eq_some_iff.1 hi).1; have := h.len; omega)⟩
  exact (h.ok i a b hi hb).oa
theorem Pairs.right {T U : Tls} (h : Pairs T U) : ∀ a ∈ U, TlOK a := fun b hb => by
  obtain ⟨i, hi⟩ := List.mem_iff_getElem?.1 hb
  obtain ⟨a, ha⟩ : ∃ a, T[i]? = some a := ⟨_, List.getElem?_eq_getElem (by have := (List.getElem?_eq_some_iff.1 hi).1; have := h.len; omega)⟩
  exact (h.ok i a b ha hi |> fun _ => (h.ok i a b ha hi).ob)
theorem gridF_row {c : Int} {T : Lns} : ∀ L ∈ gridF c T, L.length ≤ 2 ^ 30 := fun L hL => by
  obtain ⟨p, _, rfl⟩ := List.mem_map.1 hL
  rw [rowF_len]; omega
theorem otherG_row {c : Int} {T U : Lns} : ∀ L ∈ otherG c T U, L.length ≤ 2 ^ 30 := fun L hL => by
  obtain ⟨p, _, O, rfl⟩ := other_in hL
  rw [rowF_len]; omega
theorem tl_ok {p : Df} (hp : p.ok) {v : Value} {G : Gd} (h1 : G.length ≤ 2 ^ 20) (h2 : ∀ L ∈ G, L.length ≤ 2 ^ 30) : TlOK (⟨p.rect, v⟩, G) := by
  have := hp.t; have := hp.l; have := hp.r; have := hp.c
  exact ⟨by show -100 ≤ p.t % 12 - 2 ∧ p.t % 12 - 2 ≤ 100; omega, by show -100 ≤ p.l % 14 - 2 ∧ p.l % 14 - 2 ≤ 100; omega, by show -100 ≤ p.r % 8 - 1 ∧ p.r % 8 - 1 ≤ 100; omega, by show -100 ≤ p.c % 12 - 1 ∧ p.c % 12 - 1 ≤ 100; omega, h1, h2⟩

section
variable {M : Mem} {Q : Value → Mem → Prop}
theorem works30_W {M : Mem} (h : Q (.bool true) M) : W funs known (.func (.func n_law30_works) #[] #[]) [] M Q := W_known rfl h
abbrev cbI (P : Mem) (b1 : Nat) (R C : Nat) (y0 y1 bc : Int) (bv lv ov av : Value) (T : Tls) : Nat → LS → Prop := fun k s => ∃ (i : Nat) (M' : Mem) (r m : Value) (U : Tls) (O : List Dr), s = law30_ComposeBlind_l1_s lv ov (.int .i64 R) (.int .i64 C) av r m (.int .i64 i) b1 (.int .u8 y0) (.int .u8 y1) (.int .u8 bc) bv [] M' ∧ Ext P M' ∧ Mine 63 P M' r U.row ∧ (∀ a ∈ U, Gr P a.1.v a.2 ∨ GrN P M' a.1.v a.2) ∧ Pairs T U ∧ SlH P m O ∧ (∀ d ∈ O, d.ok) ∧ i ≤ T.length ∧ k = T.length - i

theorem cblind_W (hM : M.base ≤ M.size) {y0 y1 bc : Int} (h0 : 0 ≤ y0 ∧ y0 ≤ 255) (h1 : 0 ≤ y1 ∧ y1 ≤ 255) (hbc : 0 ≤ bc ∧ bc ≤ 255) {lv ov bv : Value} {D : Dfs} {X : Dfs} {B : List Dr} (hD : Sl M lv D.row) (okD : DfsOK M D) (hX : Sl M ov X.row) (okX : DfsOK M X) (hB : Sl M bv B) (okB : ∀ d ∈ B, d.ok) (q : ∀ M', Q (.bool true) M') :
    W funs known (.func (.func n_law30_ComposeBlind) #[] #[]) [lv, ov, .agg #[.int .u8 y0, .int .u8 y1, .int .u8 bc, bv]] M Q := by
  have hDl : D.row.length = D.length := by simp
  have hXl : X.row.length = X.length := by simp
  obtain ⟨a0, c0, e0⟩ := hD.shape
  obtain ⟨a1, c1, e1⟩ := hX.shape
  obtain ⟨a2, c2, e2⟩ := hB.shape
  subst e0 e1 e2
  refine law30_ComposeBlind_wp hM ⟨rfl, fun b1 P hb1 hP => works30_W ⟨KeepB.refl _ _, _, rfl, wpIf.ff ?_⟩⟩
  have eP : Ext M P := Ext.push' hP
  have sP : P.size = M.size + 1 := by rw [hP]; rfl
  have kP := eP.ok hM
  generalize hlv : Value.slice a0 D.row.length c0 = lv at *
  generalize hov : Value.slice a1 X.row.length c1 = ov at *
  generalize hbv : Value.slice a2 B.length c2 = bv at *
  refine step_rem8 (by omega) (by omega) (step_conv (IntWalk.i64_in _ (by omega)) (step_add (by omega) (by omega) ?_))
  refine step_rem8 (by omega) (by omega) (step_conv (IntWalk.i64_in _ (by omega)) (step_add (by omega) (by omega) ?_))
  obtain ⟨R, hR⟩ : ∃ R : Nat, (2 : Int) + y0 % 13 = R := ⟨(2 + y0 % 13).toNat, by omega⟩
  obtain ⟨C, hC⟩ : ∃ C : Nat, (1 : Int) + y1 % 16 = C := ⟨(1 + y1 % 16).toNat, by omega⟩
  rw [hR, hC]
  refine tiles_W kP (hD.ext eP) (okD.ext eP) fun M13 av T e13 nT hTF => ⟨e13.keep _, ?_⟩
  have hTl : T.length ≤ 6 := by
    have := congrArg List.length hTF
    simp only [tilesF, List.length_map, List.length_take] at this
    omega
  have hTD : ∀ (i : Nat) (a : Tl × Gd), T[i]? = some a → ∃ p, D[i]? = some p ∧ a.1.r = p.1.rect ∧ a.2 = gridF p.1.g p.2 := fun i a ha => by
    have h2 : (T.map (fun a => (a.1.r, a.2)))[i]? = some (a.1.r, a.2) := by rw [List.getElem?_map, ha]; rfl
    rw [hTF] at h2
    unfold tilesF at h2
    rw [List.getElem?_map, List.getElem?_take] at h2
    split at h2
    · obtain ⟨p, hp, hpa⟩ := Option.map_eq_some_iff.1 h2
      have hpa := Prod.mk.inj hpa
      exact ⟨p, hp, hpa.1.symm, hpa.2.symm⟩
    · cases h2
  have pTT : Pairs T T := ⟨rfl, fun i a b ha hb => by
    rw [ha] at hb; cases hb
    obtain ⟨p, hp, hr, hg⟩ := hTD i a ha
    have okp := (okD p (List.mem_of_getElem? hp)).1
    have hok : TlOK a := by
      have := tl_ok okp (v := a.1.v) (G := a.2) (by rw [hg]; have := gridF_len p.1.g p.2; omega) (by rw [hg]; exact gridF_row)
      rw [← hr] at this; exact this
    exact ⟨rfl, by rw [hg]; exact (grid_ok _ _).1, by rw [hg]; exact (grid_ok _ _).1, by rw [hg]; exact (grid_ok _ _).2, by rw [hg]; exact (grid_ok _ _).2, LowG.refl _, hok, hok⟩⟩
  have hTr : T.row.length = T.length := by simp
  have k13 := e13.ok kP
  have eP13 := eP.trans e13
  have b1lt : b1 < M13.size := by have := e13.size; omega
  refine step_lit ([] : List Tl) rfl rfl fun v14 M15 e15 n15 => ⟨e15.keep _, ?_⟩
  refine step_appM e15 k13 (.inl n15) (nT.1.sl.ext e15).srcs (by rw [hTr]; simp; omega) (by rw [hTr]; simp; omega) fun v16 M17 e17 n17 k17 => ⟨keepE b1lt e15 e17, ?_⟩
  rw [List.nil_append] at n17
  refine ⟨law30_ComposeBlind_l1_m, cbI M13 b1 R C y0 y1 bc bv lv ov av T, ⟨T.length, 0, M17, v16, .slice none 0 0, T, [], rfl, e17, n17, fun a ha => .inl (nT.2 a ha).gr, pTT, .inl (Sl.nil _), by simp, Nat.zero_le _, rfl⟩, ?_⟩
  clear n17 k17 n15 e15 e17 pTT
  rintro k s ⟨i, M', r, m, U, O, rfl, eM, nb0, gU, pr, hm, okO, hi, rfl⟩
  have nb : Mine 63 M13 M' r U.row := nb0
  clear nb0
  have hUl := pr.len
  have hUr : U.row.length = U.length := by simp
  have kM := eM.ok k13
  have eMM := eP13.trans eM
  refine law30_ComposeBlind_l1_wp (I := cbI M13 b1 R C y0 y1 bc bv lv ov av T) (step_lenS nb.sl ?_)
  rw [hUr]
  have fin : law30_ComposeBlind_c0_q (.int .i64 R) (.int .i64 C) av r m b1 (.int .u8 y0) (.int .u8 y1) (.int .u8 bc) bv M' Q := by
    refine row_W kM hbc (.inl (hB.ext eMM)) okB fun M2 r1 e2 n2 => ⟨e2.keep _, ?_⟩
    have low := row_low bc B O
    have ok1 := row_ok bc B []
    have ok2 := row_ok bc B O
    have l1 := rowF_len bc B []
    have l2 := rowF_len bc B O
    refine screen30_W (e2.ok kM) (by omega) (by omega) n2.sl (by omega) (nT.1.sl.ext (eM.trans e2)) (by omega) (fun a ha => (nT.2 a ha).gr.ext (eM.trans e2)) pr.left fun M4 g e4 g4 => ⟨e4.keep _, g, rfl, .int .i64 0, rfl, ?_⟩
    have e24 := e2.trans e4
    have k4 := e24.ok kM
    refine other_W k4 hbc (.inl (hB.ext (eMM.trans e24))) okB (hm.ext (eM.trans e24)) okO fun M8 r7 e8 n8 => ⟨e8.keep _, ?_⟩
    have e28 := e24.trans e8
    refine screen30_W (e28.ok kM) (by omega) (by omega) n8.sl (by omega) (nb.sl.ext e28) (by omega) (fun a ha => (gU a ha).elim (fun h => h.ext (eM.trans e28)) (fun h => h.gr.ext e28)) pr.right fun M10 h e10 g10 => ⟨e10.keep _, h, rfl, .int .i64 0, rfl, ?_⟩
    have e210 := e28.trans e10
    obtain ⟨lowS, scr, lbS⟩ := screen_low (R := R) (C := C) (by omega) ok1.1 ok2.1 ok1.2 ok2.2 low pr.lowT
    have lbS' := lowS.lb lbS
    have g4 := (g4.ext (e8.trans e10)).gr
    have g10 := g10.gr
    have hSl := lowS.len
    have lenS := scr.len
    have rowS := scr.row
    have rowS' : ∀ K ∈ screenF R C (rowF bc B O) U, K.length = C := fun K hK => by
      obtain ⟨j, hj⟩ := List.mem_iff_getElem?.1 hK
      obtain ⟨L, hL⟩ : ∃ L, (screenF R C (rowF bc B []) T)[j]? = some L := ⟨_, List.getElem?_eq_getElem (by have := (List.getElem?_eq_some_iff.1 hj).1; omega)⟩
      rw [← (lowS.row j L K hL hj).len]
      exact rowS L (List.mem_of_getElem? hL)
    have honly := only_low lowS
    generalize screenF R C (rowF bc B []) T = S at *
    generalize screenF R C (rowF bc B O) U = S' at *
    refine step_lenG g4 (s_eqT (by omega) (wpIf.tt ?_))
    have k10 := e210.ok kM
    refine only_W k10 g4 (by omega) (fun L hL => by rw [rowS L hL]; omega) lbS fun M16 o1 e16 g16 => ⟨e16.keep _, ?_⟩
    refine only_W (e16.ok k10) (g10.ext e16) (by omega) (fun L hL => by rw [rowS' L hL]; omega) lbS' fun M18 o2 e18 g18 => ⟨e18.keep _, ?_⟩
    refine gsame_W (e18.ok (e16.ok k10)) ((g16.ext e18).gr) g18.gr (fun L hL => ?_) (by unfold onlyF; rw [List.length_map]; omega) ⟨KeepB.refl _ _, ?_⟩
    · obtain ⟨L', hL', rfl⟩ := List.mem_map.1 hL
      rw [List.length_map, rowS L' hL']; omega
    · rw [decide_eq_true honly]; exact q _
  refine step_lss (wpIf.dec (fun g1 => ?_) (fun g1 => ?_))
  rotate_left
  · exact blockK.hit (law30_ComposeBlind_c0_wp fin)
  refine step_lenS hX ?_
  rw [hXl]
  refine step_gtr (wpIf.dec (fun g2 => ?_) (fun g2 => ?_))
  rotate_left
  · exact blockK.hit (law30_ComposeBlind_c0_wp fin)
  clear fin
  refine law30_ComposeBlind_c2_wp (I := cbI M13 b1 R C y0 y1 bc bv lv ov av T) (step_lenS hX ?_)
  rw [hXl]
  refine step_remT (by omega) ?_
  rw [show (i : Int).tmod (X.length : Int) = ((i % X.length : Nat) : Int) from rfl]
  have hmod : i % X.length < X.length := Nat.mod_lt _ (by omega)
  obtain ⟨d, hd⟩ : ∃ d, X[i % X.length]? = some d := ⟨_, List.getElem?_eq_getElem hmod⟩
  have hdr : X.row[i % X.length]? = some d.1 := by show (X.map _)[_]? = _; rw [List.getElem?_map, hd]; rfl
  obtain ⟨dk1, dk2, dk3⟩ := okX d (List.mem_of_getElem? hd)
  obtain ⟨a, ha⟩ : ∃ a, T[i]? = some a := ⟨_, List.getElem?_eq_getElem (by omega)⟩
  obtain ⟨u, hu⟩ : ∃ u, U[i]? = some u := ⟨_, List.getElem?_eq_getElem (by omega)⟩
  obtain ⟨p, hp, har, hag⟩ := hTD i a ha
  have hpr : D.row[i]? = some p.1 := by show (D.map _)[i]? = _; rw [List.getElem?_map, hp]; rfl
  obtain ⟨pk1, pk2, pk3⟩ := okD p (List.mem_of_getElem? hp)
  refine rd_fs (hX.ext eMM) (by omega) (by rw [Int.toNat_natCast]; exact hdr) (f := 4) (n := 2) rfl (by exact Nat.le_refl 6) fun _ _ => ⟨rfl, fun b6 M7 hb6 hM7 => ⟨⟨rfl, rfl, by decide⟩, fun M8 hM8 => ?_⟩⟩
  have e7 : Ext M' M7 := Ext.push' hM7
  have s7 : M7.size = M'.size + 1 := by rw [hM7]; rfl
  have e8 : Ext M' M8 := hM8 ▸ e7.set (by omega) (by omega) _
  have s8 : M8.size = M7.size := by rw [hM8]; rfl
  have eM8 := eMM.trans e8
  refine rd_fs (hD.ext eM8) (by omega) (by rw [Int.toNat_natCast]; exact hpr) (f := 4) (n := 2) rfl (by exact Nat.le_refl 6) fun _ _ => ?_
  refine LGetN.as (.agg #[.int .u8 d.1.g, d.1.v]) (by exact Nat.le_refl 2) rfl ?_
  refine gother_W (e8.ok kM) pk1.g (pk2.ext eM8) (pk3.ext eM8) (dk2.ext eM8) (dk3.ext eM8) fun M14 gv e14 g14 => ⟨e14.keep _, ?_⟩
  have e814 := e8.trans e14
  have eP14 := eM.trans e814
  have nb14 := nb.ext e814
  have g14 : GrN M13 M14 gv (otherG p.1.g p.2 d.2) := g14.old (eM.trans e8)
  have hnew : New 63 M13 M14 r U.row := by
    rcases nb14 with h | ⟨h, _⟩
    · exact h
    · have := congrArg List.length h
      rw [hUr, List.length_nil] at this; omega
  have hur : U.row[i]? = some u.1 := by show (U.map _)[i]? = _; rw [List.getElem?_map, hu]; rfl
  obtain ⟨c1', c2', _⟩ := SlH.cells (.inl g14.gr.choose_spec.1)
  refine wr_fk eP14 k13 hnew (⟨u.1.r, gv⟩ : Tl) hur (f := 4) (by exact Nat.le_refl 5) rfl (by rw [c1']) c2' fun _ M18 e18 n18 k18 => ⟨?_, ?_⟩
  · intro x hx hxs
    refine k18 x hxs fun hbl => ?_
    have hlt := mine_lt nb hbl
    simp only [List.mem_cons, List.not_mem_nil, or_false] at hx
    obtain ⟨b, sp, hv, g3, g4⟩ := hnew
    rw [hv] at hbl
    simp only [blk] at hbl
    cases hbl
    omega
  have hrow : Tls.row (U.set i (⟨u.1.r, gv⟩, otherG p.1.g p.2 d.2)) = U.row.set i ⟨u.1.r, gv⟩ := by simp [Tls.row, List.map_set]
  have hb' : Mine 63 M13 M18 r (Tls.row (U.set i (⟨u.1.r, gv⟩, otherG p.1.g p.2 d.2))) := by rw [hrow]; exact .inl n18
  have gU' : ∀ x ∈ U.set i (⟨u.1.r, gv⟩, otherG p.1.g p.2 d.2), Gr M13 x.1.v x.2 ∨ GrN M13 M18 x.1.v x.2 := fun x hx => by
    rcases List.mem_or_eq_of_mem_set hx with hx | rfl
    · rcases gU x hx with h | h
      · exact .inl h
      · exact .inr (GrN.keep (.inl hnew) (h.ext e814) (by decide) (by decide) k18)
    · exact .inr (GrN.keep (.inl hnew) g14 (by decide) (by decide) k18)
  have hold := pr.ok i a u ha hu
  have hau : u.1.r = p.1.rect := by rw [← hold.r, har]
  have pr' : Pairs T (U.set i (⟨u.1.r, gv⟩, otherG p.1.g p.2 d.2)) := pr.set ha ⟨hold.r, hold.wa, other_wh _ _ _, hold.la, other_lb _ _ _, by rw [hag]; exact other_low _ _ _, hold.oa, by
    have := tl_ok pk1 (v := gv) (G := otherG p.1.g p.2 d.2) (by unfold otherG; rw [others_len]; simp [linesF]; omega) otherG_row
    rw [← hau] at this; exact this⟩
  have eM18 := eP13.trans e18
  refine LGet.mk (v := d.1.v) rfl (step_lenH dk2 ?_)
  have hd2 : d.2.row.length = d.2.length := by simp
  rw [hd2]
  refine step_gtr (wpIf.dec (fun g3 => ?_) (fun g3 => ?_))
  · obtain ⟨z, hz⟩ : ∃ z, d.2[0]? = some z := ⟨_, List.getElem?_eq_getElem (by omega)⟩
    have hzr : d.2.row[0]? = some z.1 := by show (d.2.map _)[0]? = _; rw [List.getElem?_map, hz]; rfl
    obtain ⟨zk1, zk2⟩ := dk3 z (List.mem_of_getElem? hz)
    refine LGet.mk (v := d.1.v) rfl ?_
    refine rd_f ((dk2.at hzr).ext eM18) (i := 0) (by omega) hzr (f := 1) (x := z.1.v) rfl fun _ _ => ?_
    exact step_add (by omega) (by omega) ⟨T.length - (i + 1), by omega, i + 1, M18, r, z.1.v, _, z.2, rfl, e18, hb', gU', pr', zk1.ext eP13, zk2, by omega, rfl⟩
  · exact step_add (by omega) (by omega) ⟨T.length - (i + 1), by omega, i + 1, M18, r, m, _, O, rfl, e18, hb', gU', pr', hm, okO, by omega, rfl⟩
end
end Go.Proofs.Ytkelbhcaecojkaa.Run
