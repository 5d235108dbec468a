/- The law GridCopies, over this session's interpreter. -/
import Derived.Test.YtifemfnjoobiiaaGridP
import Derived.Test.YtifemfnjoobiiaaVcLC
namespace Go.Proofs.Ytifemfnjoobiiaa.Run
open Go Go.RowKit
set_option linter.unusedVariables false
set_option linter.unusedSimpArgs false
def Ws (K N : Mem) (v : Value) (vs : List Value) : Prop := Mine 26 K N v (vs.map Vl.mk) ∧ ∀ x ∈ vs, ∃ L : List Ce, Mine 42 K N x L ∧ L.length ≤ 512
theorem GrN.ws {K N : Mem} {v : Value} {G : Gd} (h : GrN K N v G) (hl : ∀ L ∈ G, L.length ≤ 512) : ∃ vs : List Value, vs.length = G.length ∧ Ws K N v vs := by
 obtain ⟨P, h1, h2, rfl⟩ := h
 refine ⟨P.map (·.1), by simp, ?_, fun x hx => ?_⟩
 ·have : (P.map (·.1)).map Vl.mk = P.row := by simp [Parts.row]
  rw [this]; exact h1
 ·obtain ⟨p, hp, rfl⟩ := List.mem_map.1 hx
  exact ⟨p.2, h2 p hp, hl _ (List.mem_map_of_mem hp)⟩
theorem Ws.put {K N : Mem} (hKb : N.base ≤ K.size) {v : Value} {vs : List Value} (h : Ws K N v vs) {b : Nat} {sp : Option Nat} {n : Nat} (hx : (.slice (some ⟨b, 0, sp⟩) n n) ∈ vs) {i : Nat} (hi : i < n) {r : Int} {j : IntKind} {Pr : Value → Value → Value → Mem → Prop}
  (q : ∀ p p' u N', Touch (fun c => K.size ≤ c) N N' → Ws K N' v vs → Pr p p' u N') :
  ∃ p, opSem (.addrL 14 (.const (.slice (some ⟨b, 0, sp⟩) n n)) (.const (.int j (i : Int)))) [] N = some (p, N) ∧ ∃ p', opSem (.fieldAddr 0 (.const p)) [] N = some (p', N) ∧ ∃ u N', opSem (.store 1 (.const p') (.const (.int .i32 r))) [] N = some (u, N') ∧ Pr p p' u N' := by
 obtain ⟨h1, h2⟩ := h
 obtain ⟨L, hL, hL5⟩ := h2 _ hx
 rcases hL with ⟨b', sp', he, g, hlt⟩ | ⟨_, he⟩
 rotate_left
 ·cases he
 have hb : b = b' := by have := (Value.slice.inj he).1; simp only [Option.some.injEq, Addr.mk.injEq] at this; exact this.1
 have hn : n = L.length := (Value.slice.inj he).2.1
 subst hb
 have hlen : ∀ A : List Ce, (flat A).length = A.length * 14 := fun A => flat_len A
 refine ⟨.pointer (some ⟨b, 0 + i * 14, none⟩), ?_, .pointer (some ⟨b, 0 + i * 14 + 0, none⟩), rfl, ?_⟩
 ·simp only [opSem, ev]
  rw [if_pos ⟨by omega, by omega⟩, Int.toNat_natCast]
 obtain ⟨c0, hc0⟩ : ∃ c0, L[i]? = some c0 := ⟨_, List.getElem?_eq_getElem (by omega)⟩
 have hput : (flat L).set (0 + i * 14 + 0) (.int .i32 r) = flat (L.set i { c0 with rune := r }) := by
  have h3 := flat_put (E := inferInstance) (L := L) (i := i) (a := c0) (a' := { c0 with rune := r }) hc0 (f := 0) (vs := [.int .i32 r]) (by show 0 + 1 ≤ 14; omega) rfl
  have h4 : i * Enc.k Ce + 0 = 0 + i * 14 + 0 := by show i * 14 + 0 = _; omega
  rw [h4] at h3
  rw [← h3]
  unfold splice
  rw [List.set_eq_take_append_cons_drop, if_pos (by rw [hlen]; omega)]; simp
 refine pt_st g (by omega) (by rw [hlen]; omega) rfl rfl fun u N' hN' => ?_
 rw [hput] at hN'
 have hbs := Mem.lt_of_get g
 have t : Touch (fun c => K.size ≤ c) N N' := by subst hN'; exact Touch.set (p := fun c => K.size ≤ c) (Touch.refl _ N) hlt hbs _
 have gN' : N'.get b = some (.cells (flat (L.set i { c0 with rune := r })) 42 true) := by rw [hN', Mem.get_set _ _ _ hbs, if_pos rfl]
 have oN' : ∀ c, c ≠ b → N'.get c = N.get c := fun c hc => by rw [hN', Mem.get_set _ _ _ hbs, if_neg hc]
 refine q _ _ u N' t ⟨?_, fun x hxx => ?_⟩
 ·rcases h1 with ⟨bl, spl, hv, gl, hll⟩ | h1
  ·refine .inl ⟨bl, spl, hv, (oN' bl fun hh => ?_).trans gl, hll⟩
   rw [hh, g] at gl
   exact absurd (AObj.cells.inj (Option.some.inj gl)).2.1 (by decide)
  ·exact .inr h1
 ·obtain ⟨L', hL', hL5'⟩ := h2 x hxx
  rcases hL' with ⟨bq, spq, hq, gq, lq⟩ | hL'
  ·by_cases hqb : bq = b
   ·subst hqb
    rw [g] at gq
    have hfl := (AObj.cells.inj (Option.some.inj gq)).1
    have hll : L'.length = L.length := by
     have := congrArg List.length hfl
     rw [hlen, hlen] at this; omega
    exact ⟨L.set i { c0 with rune := r }, .inl ⟨bq, spq, by rw [hq, List.length_set, hll], gN', lq⟩, by rw [List.length_set]; exact hL5⟩
   ·exact ⟨L', .inl ⟨bq, spq, hq, (oN' bq hqb).trans gq, lq⟩, hL5'⟩
  ·exact ⟨L', .inr hL', hL5'⟩
theorem Ws.at {K N : Mem} {v : Value} {vs : List Value} (h : Ws K N v vs) {i : Nat} {x : Value} (hx : vs[i]? = some x) {j : IntKind} {Pr : Value → Value → Prop} (q : ∀ p, Pr p x) :
  ∃ p, opSem (.addrL 1 (.const v) (.const (.int j (i : Int)))) [] N = some (p, N) ∧ ∃ y, opSem (.load none (.const p)) [] N = some (y, N) ∧ Pr p y :=
 rdV h.1.sl (by omega) (by rw [Int.toNat_natCast, List.getElem?_map, hx]; rfl) q
theorem Ws.row {K N : Mem} {v : Value} {vs : List Value} (h : Ws K N v vs) {x : Value} (hx : x ∈ vs) : (∃ b sp n, x = .slice (some ⟨b, 0, sp⟩) n n ∧ n ≤ 512) ∨ x = .slice none 0 0 := by
 obtain ⟨L, hL, hL5⟩ := h.2 x hx
 rcases hL with ⟨b, sp, he, _⟩ | ⟨_, he⟩
 ·exact .inl ⟨b, sp, _, he, hL5⟩
 ·exact .inr he
section
variable {M : Mem} {Q : Value → Mem → Prop}
abbrev gcI2 (Mr : Mem) (n : Nat) (lv gp was cp r dv : Value) (c : Int) (b1 : Nat) : Nat → LS → Prop := fun k s => ∃ (i : Nat) (N : Mem) (L : List Ce), s = law11_GridCopies_l2_s lv gp was cp r (.int .i64 i) b1 (.int .u8 c) dv [] N ∧ Ext Mr N ∧ New 42 Mr N r L ∧ L.length = n ∧ i ≤ n ∧ k = n - i
structure Gc (M7 Ma N : Mem) (b rb b2 rb2 : Nat) (C : Nat) (G : Gd) (rb' C' : Nat) (G' : Gd) : Prop where
 e : Ext M7 N
 g : Gp M7 N b rb' C' G'
 t : Touch (fun c => c = b ∨ c = rb) Ma N
 r : rb' = rb ∨ Ma.size ≤ rb'
abbrev gcI5 (M7 Ma : Mem) (S : List Sp) (lv was cp dv : Value) (c : Int) (b rb b2 rb2 C b1 : Nat) (G : Gd) : Nat → LS → Prop := fun k s => ∃ (i : Nat) (N : Mem) (rb' C' : Nat) (G' : Gd), s = law11_GridCopies_l5_s lv (.pointer (some ⟨b, 0, none⟩)) was cp (.int .i64 i) b1 (.int .u8 c) dv [] N ∧ Gc M7 Ma N b rb b2 rb2 C G rb' C' G' ∧ i ≤ S.length ∧ k = S.length - i
abbrev gcI8 (K M4 : Mem) (vs : List Value) (lv gp was cp wv dv : Value) (i : Nat) (c : Int) (b1 : Nat) : Nat → LS → Prop := fun k s => ∃ (j : Nat) (N : Mem), s = law11_GridCopies_l8_s lv gp was cp (.int .i64 i) wv (.int .i64 j) b1 (.int .u8 c) dv [] N ∧ Touch (fun c => K.size ≤ c) M4 N ∧ Ws K N wv vs ∧ j ≤ vs.length ∧ k = vs.length - j
abbrev gcI10 (K M4 : Mem) (vs : List Value) (n : Nat) (lv gp was cp wv dv : Value) (i j : Nat) (c : Int) (b1 : Nat) : Nat → LS → Prop := fun k s => ∃ (x : Nat) (N : Mem), s = law11_GridCopies_l10_s lv gp was cp (.int .i64 i) wv (.int .i64 j) (.int .i64 x) b1 (.int .u8 c) dv [] N ∧ Touch (fun c => K.size ≤ c) M4 N ∧ Ws K N wv vs ∧ x ≤ n ∧ k = n - x
set_option maxHeartbeats 2000000 in
theorem gcopies_W (hM : M.base ≤ M.size) {c : Int} (hc : 0 ≤ c ∧ c ≤ 255) {dv lv : Value} {T : Lns} (h : Sl M dv T.row) (hok : LnsOK M T) {S : List Sp} (hS : Sl M lv S) (okS : ∀ s ∈ S, s.ok) (q : ∀ M', Q (.bool true) M') :
  W funs known (.func (.func n_law11_GridCopies) #[] #[]) [.agg #[.int .u8 c, dv], lv] M Q := by
 obtain ⟨da, dcap, hdv⟩ := h.shape
 obtain ⟨la, lcap, hlv⟩ := hS.shape
 rw [hdv, hlv]
 refine law11_GridCopies_wp hM ?_
 rw [← hdv, ← hlv]
 refine ⟨rfl, fun b1 M2 hb1 hM2 => W_known (r := .bool true) rfl ⟨KeepB.refl _ _, _, rfl, wpIf.ff ?_⟩⟩
 have e2 : Ext M M2 := Ext.push' hM2
 have s2 : M2.size = M.size + 1 := by rw [hM2]; rfl
 refine draftG_W (e2.ok hM) hc (.inl (h.ext e2)) (hok.ext e2) fun M7 gv e7 n7 => ⟨e7.keep _, ?_⟩
 have e07 := e2.trans e7
 have k7 := e07.ok hM
 obtain ⟨_, hC1, hC2⟩ := colsD_in c hc
 have hrows := gridD_rows c T
 have hb1 : b1 < M7.size := by have := e7.size; omega
 have hGC := gridD_cols hc T
 generalize gridD c T = G at n7 hrows hGC
 generalize colsD c = C at hC1 hC2 hGC
 refine of_W k7 n7.gr hGC hC1 (by omega) hrows.1 (by omega) fun M9 b rb e9 g9 => ⟨e9.keep _, rows_W e9 k7 g9 fun M11 was e11 n11 => ⟨e11.keep _, gcopy_W (e9.trans e11) k7 (g9.ext e11) fun M13 b2 rb2 e13 g13 l13 m13 => ⟨e13.keep _, .bool false, rfl, wpIf.ff ?_⟩⟩⟩
 have e713 := (e9.trans e11).trans e13
 have k13 := e713.ok k7
 have g9' := g9.ext (e11.trans e13)
 refine gsame_W' k13 g9' g13 ⟨KeepB.refl _ _, ?_⟩
 rw [decide_eq_true rfl]
 refine ⟨_, rfl, wpIf.ff (law11_GridCopies_c0_wp (grow_row_W k13 g9' fun M14 r e14 n14 => ⟨e14.keep _, ?_⟩))⟩
 obtain ⟨L0, hL0⟩ : ∃ L0, G[0]? = some L0 := ⟨_, List.getElem?_eq_getElem (by omega)⟩
 have hL0C := hGC L0 (List.mem_of_getElem? hL0)
 have hr0 : rowG G 0 = L0 := rowG_some (by omega) hL0
 rw [hr0] at n14
 have n14' := n14.new fun h0 => by rw [h0] at hL0C; simp at hL0C; omega
 have lt1 : b1 < M13.size := by have := e713.size; omega
 refine ⟨law11_GridCopies_l2_m, gcI2 M13 C lv (.pointer (some ⟨b, 0, none⟩)) was (.pointer (some ⟨b2, 0, none⟩)) r dv c b1, ⟨C, 0, M14, L0, rfl, e14, n14', hL0C, Nat.zero_le _, rfl⟩, ?_⟩
 clear n14 n14' e14 M14
 rintro k s ⟨i, N, L, rfl, eN, nN, hL, hi, rfl⟩
 refine law11_GridCopies_l2_wp (I := gcI2 M13 C lv (.pointer (some ⟨b, 0, none⟩)) was (.pointer (some ⟨b2, 0, none⟩)) r dv c b1) (step_lenS nN.sl ?_)
 rw [hL]
 refine step_lss (wpIf.dec (fun g1 => ?_) (fun g1 => ?_))
 ·obtain ⟨ce, hce⟩ : ∃ ce, L[i]? = some ce := ⟨_, List.getElem?_eq_getElem (by omega)⟩
  exact ⟨Ce.val ⟨63, 0, 0, 9, ⟨0, 0, 0, 0, 0, 0, 0, 0, 0⟩, 0⟩, rfl, wr eN k13 nN (a := ce) ⟨63, 0, 0, 9, ⟨0, 0, 0, 0, 0, 0, 0, 0, 0⟩, 0⟩ hce rfl fun u N' eN' nN' => ⟨keepE lt1 eN eN', step_add (by omega) (by omega) ⟨C - (i + 1), by omega, i + 1, N', _, rfl, eN', nN', by rw [List.length_set]; exact hL, by omega, rfl⟩⟩⟩
 refine blockK.hit ?_
 clear g1 hi hL nN
 have kN := eN.ok k13
 have e7N := e713.trans eN
 have gN := g9'.ext eN
 refine law11_GridCopies_c1_wp (grow_row_W kN gN fun M2' r1 e2' n2' => ⟨e2'.keep _, ?_⟩)
 rw [hr0] at n2'
 obtain ⟨hC, _, _, _, _, hbm, hrm, hbl, hrl, hne⟩ := g9.facts
 have hset : setG G C 0 L0 = G := by
  unfold setG
  rw [if_pos ⟨by omega, hL0C⟩]
  refine List.ext_getElem? fun k => ?_
  by_cases hk : k = 0
  ·subst hk; rw [hL0]; exact List.getElem?_set_self (by omega)
  ·exact List.getElem?_set_ne (by show (0 : Int).toNat ≠ k; simp; omega)
 refine gset_W (e7N.trans e2') k7 (gN.ext e2') n2'.sl (by omega) fun M4' t4' g4' => ⟨fun y hy hs => t4'.get y hs (by rw [List.mem_singleton] at hy; omega), ?_⟩
 rw [hset] at g4'
 rw [decide_eq_true ⟨by omega, by omega, hL0C⟩]
 have e74 : Ext M7 M4' := t4'.chg.ext (b := b) (e7N.trans e2') hbm hrm
 have k4 := e74.ok k7
 have s9 := e11.size
 have s13 := e13.size
 have kinds2 : ∀ x, x = rb → ∀ y w, M2'.get x ≠ some (.cells y 42 w) := fun x hx => (gN.ext e2').kinds x (.inr hx)
 have gc4 : Gp M7 M4' b2 rb2 C G := ((g13.ext eN).ext e2').touch t4' (by omega) (by omega) kinds2
 have was4 : GrN M9 M4' was G := (((n11.ext e13).ext eN).ext e2').young t4' fun x hx => by rw [hx]; exact hrl
 refine ⟨_, rfl, wpIf.ff (rows_W e74 k7 g4' fun M7' r6 e7' n7' => ⟨e7'.keep _, rsame_W (e7'.ok k4) n7'.gr ((was4.ext e7').gr) (fun L hL => by rw [hGC L hL]; omega) (by omega) ⟨KeepB.refl _ _, ?_⟩⟩)⟩
 rw [decide_eq_true rfl]
 refine ⟨_, rfl, wpIf.ff (law11_GridCopies_c3_wp ?_)⟩
 have ga := g4'.ext e7'
 have gca := gc4.ext e7'
 have wasa := was4.ext e7'
 have e7a := e74.trans e7'
 have sa9 : M9.size ≤ M7'.size := by have := e13.size; have := eN.size; have := e2'.size; have := t4'.size; have := e7'.size; omega
 generalize M7' = Ma at ga gca wasa e7a sa9
 refine ⟨law11_GridCopies_l5_m, gcI5 M7 Ma S lv was (.pointer (some ⟨b2, 0, none⟩)) dv c b rb b2 rb2 C b1 G, ⟨S.length, 0, Ma, rb, C, G, rfl, ⟨e7a, ga, Touch.refl _ _, .inl rfl⟩, Nat.zero_le _, rfl⟩, ?_⟩
 clear was4 gc4 g4' n7' e74 k4 e7' t4' kinds2 gN kN e7N n2' e2' eN
 rintro k s ⟨i, N, rb', C', G', rfl, ⟨eN, gN, tN, hrb'⟩, hi, rfl⟩
 have hS' := (hS.ext e07).ext eN
 have kN := eN.ok k7
 have done : law11_GridCopies_c4_q was (.pointer (some ⟨b2, 0, none⟩)) b1 (.int .u8 c) dv N Q := by
  have gc : Gp M7 N b2 rb2 C G := gca.touch tN (by omega) (by omega) ga.kinds
  have ws : GrN M9 N was G := wasa.young tN fun x hx => by rcases hx with rfl | rfl <;> omega
  refine rows_W eN k7 gc fun M2 r2 e2 n2 => ⟨e2.keep _, rsame_W (e2.ok kN) n2.gr ((ws.ext e2).gr) (fun L hL => by rw [hGC L hL]; omega) (by omega) ⟨KeepB.refl _ _, ?_⟩⟩
  rw [decide_eq_true rfl]; exact q M2
 refine law11_GridCopies_l5_wp (I := gcI5 M7 Ma S lv was (.pointer (some ⟨b2, 0, none⟩)) dv c b rb b2 rb2 C b1 G) (step_lenS hS' (step_lss (wpIf.dec (fun g1 => step_lss (wpIf.dec (fun g2 => ?_) (fun g2 => ?_))) (fun g1 => ?_))))
 rotate_left
 ·exact blockK.hit (law11_GridCopies_c4_wp done)
 ·exact blockK.hit (law11_GridCopies_c4_wp done)
 clear done
 obtain ⟨s, hs⟩ : ∃ s, S[i]? = some s := ⟨_, List.getElem?_eq_getElem (by omega)⟩
 have ok := okS s (List.mem_of_getElem? hs)
 have hix : S[(i : Int).toNat]? = some s := by rw [Int.toNat_natCast]; exact hs
 obtain ⟨hC', _, _, _, _, hbm', hrm', hbl', hrl', hne'⟩ := gN.facts
 refine law11_GridCopies_c6_wp (rd hS' (by omega) hix fun _ => does_W eN k7 gN ok fun M4 v rb4 t4 hrb4 w4 => ⟨t4.keep fun y hy => by rw [List.mem_singleton] at hy; omega, ?_⟩)
 have hwl := does_went_len s G' C'
 have e4 : Ext M7 M4 := t4.ext eN hbm' hrm'
 obtain ⟨_, K, hK, nK, cl⟩ := w4
 obtain ⟨vs, hvs, ws⟩ := nK.ws fun L hL => by rw [does_went hC' L hL]; exact gN.facts.2.2.1
 have sN := tN.size
 have s4 := t4.size
 have n512 := gN.facts.2.2.2.2.1
 have hvl : vs.length ≤ 512 := by omega
 have kb : ∀ {A B : Mem}, Touch (fun c => K.size ≤ c) A B → KeepB [b1] A B := fun t y hy hlt => t.get y hlt (by rw [List.mem_singleton] at hy; have := eN.size; omega)
 have hbK : ∀ {A : Mem}, Touch (fun c => K.size ≤ c) M4 A → A.base ≤ K.size := fun t => by have := t.base; have := e4.base; have := eN.size; omega
 refine ⟨law11_GridCopies_l8_m, gcI8 K M4 vs lv (.pointer (some ⟨b, 0, none⟩)) was (.pointer (some ⟨b2, 0, none⟩)) v dv i c b1, ⟨vs.length, 0, M4, rfl, Touch.refl _ _, ws, Nat.zero_le _, rfl⟩, ?_⟩
 clear ws
 rintro k s' ⟨j, A, rfl, tA, wA, hj, rfl⟩
 have lenv : (vs.map Vl.mk).length = vs.length := by simp
 refine law11_GridCopies_l8_wp (I := gcI8 K M4 vs lv (.pointer (some ⟨b, 0, none⟩)) was (.pointer (some ⟨b2, 0, none⟩)) v dv i c b1) (step_lenS wA.1.sl ?_)
 rw [lenv]
 refine step_lss (wpIf.dec (fun g3 => ?_) (fun g3 => ?_))
 rotate_left
 ·-- the next step
  refine blockK.hit (blockK.n (seqK.n (law11_GridCopies_c7_wp (step_add (by omega) (by omega) ⟨S.length - (i + 1), by omega, i + 1, A, rb4, _, _, rfl, ⟨?_, cl A tA, ?_, ?_⟩, by omega, rfl⟩))))
  ·exact ⟨tA.base.trans e4.base, Nat.le_trans e4.size tA.size, fun x hx => (tA.get x (by have := e4.size; omega) (by have := eN.size; omega)).trans (e4.get x hx)⟩
  ·refine (tN.then t4 fun x hx hp => ?_).then tA fun x hx hp => ?_
   ·rcases hp with rfl | rfl
    ·exact .inl rfl
    ·rcases hrb' with rfl | h
     ·exact .inr rfl
     ·omega
   ·have hp : K.size ≤ x := hp
    omega
  ·rcases hrb4 with rfl | h
   ·exact hrb'
   ·exact .inr (by omega)
 obtain ⟨x, hx⟩ : ∃ x, vs[j]? = some x := ⟨_, List.getElem?_eq_getElem (by omega)⟩
 have hxm := List.mem_of_getElem? hx
 obtain ⟨n, hn, hn2⟩ : ∃ n : Nat, (∀ B : Mem, opSem (.len 1 (.const x)) [] B = some (.int .i64 n, B)) ∧ n ≤ 512 := by
  rcases wA.row hxm with ⟨b', sp', n, rfl, hn5⟩ | rfl
  ·exact ⟨n, fun B => rfl, hn5⟩
  ·exact ⟨0, fun B => rfl, by omega⟩
 refine ⟨law11_GridCopies_l10_m, gcI10 K M4 vs n lv (.pointer (some ⟨b, 0, none⟩)) was (.pointer (some ⟨b2, 0, none⟩)) v dv i j c b1, ⟨n, 0, A, rfl, tA, wA, Nat.zero_le _, rfl⟩, ?_⟩
 clear wA tA A
 rintro k s' ⟨y, A, rfl, tA, wA, hy, rfl⟩
 refine law11_GridCopies_l10_wp (I := gcI10 K M4 vs n lv (.pointer (some ⟨b, 0, none⟩)) was (.pointer (some ⟨b2, 0, none⟩)) v dv i j c b1) (wA.at hx fun _ => ⟨_, hn A, step_lss (wpIf.dec (fun g4 => wA.at hx fun _ => ?_) (fun g4 => ?_))⟩)
 ·rcases wA.row hxm with ⟨b', sp', n', rfl, _⟩ | rfl
  ·have hnn : n' = n := by have := hn A; simp [opSem, ev] at this; omega
   subst hnn
   exact wA.put (hbK tA) hxm (by omega) fun _ _ u A' tA' wA' => ⟨kb tA', step_add (by omega) (by omega) ⟨n' - (y + 1), by omega, y + 1, A', rfl, tA.trans tA', wA', by omega, rfl⟩⟩
  ·have hnn : (0 : Nat) = n := by have := hn A; simp [opSem, ev] at this; omega
   omega
 ·exact blockK.hit (blockK.n (seqK.n (law11_GridCopies_c9_wp (step_add (by omega) (by omega) ⟨vs.length - (j + 1), by omega, j + 1, A, rfl, tA, wA, by omega, rfl⟩))))
end
end Go.Proofs.Ytifemfnjoobiiaa.Run
