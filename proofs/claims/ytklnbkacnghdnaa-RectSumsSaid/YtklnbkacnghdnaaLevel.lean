/- Sums and levels of the parts of a rectangle: the plain law. -/
import Derived.Test.YtklnbkacnghdnaaSumA
import Derived.Test.YtklnbkacnghdnaaMapW
namespace Go.Proofs.Ytklnbkacnghdnaa.Run
open Go Go.RowKit
set_option linter.unusedVariables false
set_option linter.unusedSimpArgs false
abbrev Pl := Int × Int
abbrev plV (p : Pl) : Value := .agg #[.int .i64 p.1, .int .i64 p.2]
theorem eqPl (a b : Pl) : eqV true [0, 0] (plV a) (plV b) = some (decide (a = b)) := by
  obtain ⟨a1, a2⟩ := a
  obtain ⟨b1, b2⟩ := b
  show eqCells [0, 0] _ _ = _
  refine Eq.trans (eqCells_int (eqCells_int eqCells_nil)) ?_
  congr 1
  simp only [Prod.mk.injEq, Bool.and_true]
  rw [Bool.eq_iff_iff]
  simp only [Bool.and_eq_true, decide_eq_true_eq]
theorem findPl {es : List MapEntry} (h : ∀ e ∈ es, ∃ q, e.key = plV q) (p : Pl) : ∀ i, (findK true [0, 0] (plV p) es i = some none ∧ ∀ e ∈ es, e.key ≠ plV p) ∨ ∃ (j : Nat) (e : MapEntry), findK true [0, 0] (plV p) es i = some (some (i + j, e.val)) ∧ es[j]? = some e ∧ e.key = plV p := by
  induction es with
  | nil => exact fun i => .inl ⟨rfl, by simp⟩
  | cons e es ih =>
    intro i
    obtain ⟨q, hq⟩ := h e (.head _)
    by_cases hp : p = q
    · subst hp
      refine .inr ⟨0, e, ?_, rfl, hq⟩
      unfold findK
      rw [hq, eqPl, decide_eq_true rfl]; rfl
    · have hne : e.key ≠ plV p := fun he => hp (by
        rw [hq] at he
        obtain ⟨p1, p2⟩ := p
        obtain ⟨q1, q2⟩ := q
        simp only [plV, Value.agg.injEq, Array.mk.injEq, List.cons.injEq, Value.int.injEq, true_and, and_true] at he
        rw [he.1, he.2])
      have hstep : findK true [0, 0] (plV p) (e :: es) i = findK true [0, 0] (plV p) es (i + 1) := by
        conv => lhs; unfold findK
        rw [hq, eqPl, decide_eq_false hp]
      rw [hstep]
      rcases ih (fun e he => h e (.tail _ he)) (i + 1) with ⟨h3, h4⟩ | ⟨j, e', h4, h5, h6⟩
      · refine .inl ⟨h3, fun x hx => ?_⟩
        cases hx with
        | head => exact hne
        | tail _ hx => exact h4 x hx
      · exact .inr ⟨j + 1, e', by rw [h4]; congr 3; omega, h5, h6⟩
section
variable (lab : Pl → Int)
structure LabE (es : List MapEntry) (clock : Nat) (P : List Pl) : Prop where
  old : ∀ e ∈ es, e.born < clock
  once : (es.map (·.born)).Nodup
  of : ∀ e ∈ es, ∃ p ∈ P, e.key = plV p ∧ e.val = .int .u8 (lab p)
  all : ∀ p ∈ P, ∃ e ∈ es, e.key = plV p ∧ e.val = .int .u8 (lab p)
def MapL (N : Mem) (m : Nat) (P : List Pl) : Prop := ∃ es clock, N.get m = some (.map es clock) ∧ LabE lab es clock P
variable {lab}
theorem MapL.same {N N' : Mem} {m : Nat} {P : List Pl} (h : MapL lab N m P) (e : N'.get m = N.get m) : MapL lab N' m P := by
  obtain ⟨es, c, h1, h2⟩ := h
  exact ⟨es, c, e.trans h1, h2⟩
theorem MapL.lt {N : Mem} {m : Nat} {P : List Pl} (h : MapL lab N m P) : m < N.size := by
  obtain ⟨es, c, h1, _⟩ := h
  exact Mem.lt_of_get h1
theorem plV_inj {p q : Pl} (h : plV p = plV q) : p = q := by
  obtain ⟨p1, p2⟩ := p
  obtain ⟨q1, q2⟩ := q
  simp only [plV, Value.agg.injEq, Array.mk.injEq, List.cons.injEq, Value.int.injEq, true_and, and_true] at h
  rw [h.1, h.2]
theorem modify_same {es : List MapEntry} {j : Nat} {e : MapEntry} {f : MapEntry → MapEntry} (h : es[j]? = some e) (hf : f e = e) : es.modify j f = es := by
  apply List.ext_getElem?
  intro i
  rw [List.getElem?_modify]
  by_cases hij : j = i
  · subst hij; simp [h, hf]
  · simp [hij]
theorem step_putL {N : Mem} {m : Nat} {P : List Pl} (h : MapL lab N m P) (hb : N.base ≤ m) {p : Pl} {PM : Value → Mem → Prop} (q : ∀ v o, MapL lab (N.set m o) m (P ++ [p]) → PM v (N.set m o)) :
    ∃ v N', opSem (.mapUpd true [0, 0] (.const (.map (some m))) (.const (plV p)) (.const (.int .u8 (lab p)))) [] N = some (v, N') ∧ PM v N' := by
  have hm := h.lt
  obtain ⟨es, clock, h1, H⟩ := h
  have hkeys : ∀ e ∈ es, ∃ q, e.key = plV q := fun e he => by obtain ⟨q, _, hq, _⟩ := H.of e he; exact ⟨q, hq⟩
  have fin : ∀ f, findK true [0, 0] (plV p) es 0 = some f → MapL lab (N.set m (mapPut es clock (plV p) (.int .u8 (lab p)) f)) m (P ++ [p]) →
      ∃ v N', opSem (.mapUpd true [0, 0] (.const (.map (some m))) (.const (plV p)) (.const (.int .u8 (lab p)))) [] N = some (v, N') ∧ PM v N' := by
    intro f hf hM
    refine ⟨undef, N.set m (mapPut es clock (plV p) (.int .u8 (lab p)) f), ?_, q _ _ hM⟩
    show (match N.get m with
      | some (.map es clock) => if N.base ≤ m ∧ keyOk true [0, 0] (plV p) = true then (findK true [0, 0] (plV p) es 0).map fun f => (undef, N.set m (mapPut es clock (plV p) (.int .u8 (lab p)) f)) else none
      | _ => none) = _
    rw [h1]
    simp only
    rw [if_pos ⟨hb, rfl⟩, hf]; rfl
  rcases findPl hkeys p 0 with ⟨h3, h4⟩ | ⟨j, e, h3, h4, h5⟩
  · refine fin none h3 ⟨es ++ [{ key := plV p, val := .int .u8 (lab p), born := clock }], clock + 1, by rw [Mem.get_set _ _ _ hm, if_pos rfl]; rfl, ?_⟩
    refine ⟨fun e he => ?_, ?_, fun e he => ?_, fun r hr => ?_⟩
    · rcases List.mem_append.1 he with he | he
      · have := H.old e he; omega
      · rw [List.mem_singleton.1 he]; exact Nat.lt_succ_self _
    · rw [List.map_append]
      refine List.nodup_append.2 ⟨H.once, by simp, fun a ha b hb => ?_⟩
      obtain ⟨e, he, rfl⟩ := List.mem_map.1 ha
      have := H.old e he
      simp only [List.map_cons, List.map_nil, List.mem_singleton] at hb
      omega
    · rcases List.mem_append.1 he with he | he
      · obtain ⟨r, hr, h6⟩ := H.of e he
        exact ⟨r, List.mem_append_left _ hr, h6⟩
      · rw [List.mem_singleton.1 he]
        exact ⟨p, by simp, rfl, rfl⟩
    · rcases List.mem_append.1 hr with hr | hr
      · obtain ⟨e, he, h6⟩ := H.all r hr
        exact ⟨e, List.mem_append_left _ he, h6⟩
      · rw [List.mem_singleton.1 hr]
        exact ⟨_, List.mem_append_right _ (.head _), rfl, rfl⟩
  · have hem := List.mem_of_getElem? h4
    have hval : e.val = .int .u8 (lab p) := by
      obtain ⟨r, _, hk, hv⟩ := H.of e hem
      rw [h5] at hk
      rw [hv, plV_inj hk]
    have hmod : es.modify (0 + j) (fun e => { e with key := plV p, val := .int .u8 (lab p) }) = es := by
      rw [Nat.zero_add]
      refine modify_same h4 ?_
      obtain ⟨k, v, b⟩ := e
      simp only at h5 hval
      rw [h5, hval]
    refine fin (some (0 + j, e.val)) h3 ⟨es, clock, ?_, ⟨H.old, H.once, fun e he => ?_, fun r hr => ?_⟩⟩
    · rw [Mem.get_set _ _ _ hm, if_pos rfl]
      show some (AObj.map (es.modify (0 + j) _) clock) = _
      rw [hmod]
    · obtain ⟨r, hr, h6⟩ := H.of e he
      exact ⟨r, List.mem_append_left _ hr, h6⟩
    · rcases List.mem_append.1 hr with hr | hr
      · exact H.all r hr
      · rw [List.mem_singleton.1 hr]
        exact ⟨e, hem, h5, hval⟩
def raisedF (lab : Pl → Int) (P : List Pl) : Int := if ∃ p ∈ P, lab p > 0 then 1 else 0
end
def placesG (m : Rc) : List Pl := (List.range m.r.toNat).flatMap fun i => (List.range m.c.toNat).map fun k => (m.t + (i : Nat), m.l + (k : Nat))
def placesT (G : Gd) (T : List Rc) : List Pl := T.flatMap fun a => placesG (clippedF G a)
def labG (G : Gd) (p : Pl) : Int := (cellAt G p.1.toNat p.2.toNat).label
theorem items_places {G : Gd} {C : Nat} (hC : Flush G C) (T : List Rc) : itemsT G T = (placesT G T).map fun p => [plV p, (cellAt G p.1.toNat p.2.toNat).val] := by
  unfold itemsT placesT
  rw [List.map_flatMap]
  congr 1
  funext a
  have hw := clipped_within hC a
  have h1 := hw.t; have h2 := hw.l
  generalize clippedF G a = m at h1 h2
  unfold itemsG placesG
  rw [List.map_flatMap]
  congr 1
  funext i
  rw [List.map_map]
  congr 1
  funext k
  show [posV _ _, _] = [plV _, _]
  simp only [plV]
  rw [show (m.t + (i : Nat)).toNat = m.t.toNat + i by omega, show (m.l + (k : Nat)).toNat = m.l.toNat + k by omega]
def levG (G : Gd) (T : List Rc) : Int := raisedF (labG G) (placesT G T)
section
variable {M : Mem} {Q : Value → Mem → Prop}
abbrev lvT (ys : List LV) (v8 v10 v23 v24 v25 v26 v27 v28 v29 v30 : LV) (m p : Value) : List LV :=
  [ys.getD 0 .any, ys.getD 1 .any, ys.getD 2 .any, ys.getD 3 .any, ys.getD 4 .any, .loc 0 0, ys.getD 6 .any, ys.getD 7 .any, v8, ys.getD 9 .any, v10, ys.getD 11 .any, ys.getD 12 .any, ys.getD 13 .any, ys.getD 14 .any, ys.getD 15 .any, ys.getD 16 .any, ys.getD 17 .any, ys.getD 18 .any, ys.getD 19 .any, ys.getD 20 .any, .v m, .v p, v23, v24, v25, v26, v27, v28, v29, v30, ys.getD 31 .any]
def SoFar (es : List MapEntry) (seen : Array Nat) (a : Int) : Prop := (a = 0 ∨ a = 1) ∧ (a > 0 ↔ ∃ e ∈ es, seen.contains e.born = true ∧ ∃ n, e.val = .int .u8 n ∧ n > 0)
def shown : Tmp → Value := fun i => if i = 25 then .tuple #[.agg #[.chan none, .chan none], .chan none] else .chan none
theorem level_loop {N : Mem} {r m clock : Nat} {es : List MapEntry} {P : List Pl} {lab : Pl → Int} (H : LabE lab es clock P) (hne : es ≠ []) (ys : List LV) {b3 : Nat} {dds : List Nat} {m10 m23 m24 m25 m26 m27 m28 m29 m30 : LV}
    (hr : N.get r = some (.miterL m clock #[] clock)) (hm : N.get m = some (.map es clock)) (hb : N.base ≤ r) (hkb : N.base ≤ N.size) {QQ : XE → LS → Prop}
    (fin : ∀ n w, QQ (.exit 2) ⟨lvT ys (.v (.int .u8 (raisedF lab P))) w .any .any .any .any .any .any .any .any (.map (some m)) (.pointer (some ⟨r, 0, none⟩)), [⟨b3, [.map (some m)], 94⟩], dds, Mem.pad n (N.set r .dead)⟩) :
    RangeW funs known none (.loopM 22 23 24 2 rect_Level_m3) ⟨lvT ys (.v (.int .u8 0)) m10 m23 m24 m25 m26 m27 m28 m29 m30 (.map (some m)) (.pointer (some ⟨r, 0, none⟩)), [⟨b3, [.map (some m)], 94⟩], dds, N⟩ QQ := by
  have hlt : r < N.size := Mem.lt_of_get hr
  have hrm : m ≠ r := fun e => by rw [e, hr] at hm; cases hm
  refine loopM_W (r := r) (m := m) (clock := clock) (es := es) H.old rfl ⟨by exact Nat.lt_of_lt_of_le (by decide) (Nat.le_refl 32), by exact Nat.lt_of_lt_of_le (by decide) (Nat.le_refl 32)⟩
    (fun seen S => ∃ (a : Int) (N' : Mem) (w10 w23 w24 w25 w26 w27 w28 w29 w30 : LV), S = ⟨lvT ys (.v (.int .u8 a)) w10 w23 w24 w25 w26 w27 w28 w29 w30 (.map (some m)) (.pointer (some ⟨r, 0, none⟩)), [⟨b3, [.map (some m)], 94⟩], dds, N'⟩ ∧ SoFar es seen a ∧ N'.get r = some (.miterL m clock seen clock) ∧ N'.base = N.base ∧ N.size ≤ N'.size ∧ (∀ b, b < N.size → b ≠ r → N'.get b = N.get b) ∧
      (seen = #[] ∨ ∃ x10 x25 x26 x27 x28 x29 x30, w10 = .v x10 ∧ w25 = .v x25 ∧ w26 = .v x26 ∧ w27 = .v x27 ∧ w28 = .v x28 ∧ w29 = .v x29 ∧ w30 = .v x30 ∧ hideV x10 = .chan none ∧ hideV x25 = .tuple #[.agg #[.chan none, .chan none], .chan none] ∧ hideV x26 = .chan none ∧ hideV x27 = .chan none ∧ hideV x28 = .chan none ∧ hideV x29 = .chan none ∧ hideV x30 = .chan none))
    ?h0 ?inv ?step shown ?hid [(8, .int .u8 (raisedF lab P))] ?hacc ?fin
  case h0 =>
    exact ⟨0, N, m10, m23, m24, m25, m26, m27, m28, m29, m30, rfl, ⟨.inl rfl, by simp⟩, hr, rfl, Nat.le_refl _, fun _ _ _ => rfl, .inl rfl⟩
  case inv =>
    rintro seen S ⟨a, N', w10, w23, w24, w25, w26, w27, w28, w29, w30, rfl, hs, h1, h2, h3, h4, h5⟩
    exact ⟨rfl, h1, by rw [h4 m (Mem.lt_of_get hm) hrm]; exact hm, by show N'.base ≤ r; omega, rfl, rfl, h4⟩
  case step =>
    rintro seen S e ⟨a, N', w10, w23, w24, w25, w26, w27, w28, w29, w30, rfl, hs, h1, h2, h3, h4, h5⟩ he
    obtain ⟨hes, hns⟩ := List.mem_filter.1 he
    obtain ⟨p, hp, hk, hv⟩ := H.of e hes
    have hlt' : r < N'.size := by omega
    generalize hN2 : N'.set r (.miterL m clock (seen.push e.born) clock) = N2
    have s2 : N2.size = N'.size := by rw [← hN2]; rfl
    have b2 : N2.base = N'.base := by rw [← hN2]; rfl
    have g2 : N2.get r = some (.miterL m clock (seen.push e.born) clock) := by rw [← hN2, Mem.get_set _ _ _ hlt', if_pos rfl]
    have o2 : ∀ b, b < N.size → b ≠ r → N2.get b = N.get b := fun b hb hne => by rw [← hN2, Mem.get_set _ _ _ hlt', if_neg hne]; exact h4 b hb hne
    have hm2 : N2.get m = some (.map es clock) := by rw [o2 m (Mem.lt_of_get hm) hrm]; exact hm
    have hfind : es.find? (fun x => x.born == e.born) = some e := find_born e es H.once hes
    have hsem : opSem (.entryM (.const (.pointer (some ⟨r, 0, none⟩)))) [] N2 = some (.tuple #[plV p, .int .u8 (lab p)], N2) := by
      simp only [opSem, ev, g2, Array.back?_push, hm2, if_true, hfind, Option.map_some, hk, hv]
    have hk2 : N2.base ≤ N2.size := by omega
    show wpC funs known none rect_Level_m3 ⟨_, _, _, N'.set r (.miterL m clock (seen.push e.born) clock)⟩ _
    rw [hN2]
    obtain ⟨v4, P5, h5l, e5, s5⟩ := lit2 a (lab p) N2
    refine rect_Level_m3_wp ⟨_, N2, hsem, KeepB.refl _ _, .int .u8 (lab p), rfl, v4, P5, h5l, e5.keep _, join_W (e5.ok hk2) s5 (by simp) fun bb hbb => ⟨KeepB.refl _ _, rfl, ?_⟩⟩
    rw [join2 hbb]
    have z5 := e5.size
    refine ⟨joinF a (lab p), P5, _, _, _, _, _, _, _, _, _, rfl, ?_, by rw [e5.get r (by omega)]; exact g2, by rw [e5.base]; omega, by omega, fun b hb hne => by rw [e5.get b (by omega)]; exact o2 b hb hne, .inr ⟨_, _, _, _, _, _, _, rfl, rfl, rfl, rfl, rfl, rfl, rfl, rfl, by simp [hideV, hideC, plV], rfl, rfl, rfl, ?_, rfl⟩⟩
    · obtain ⟨q1, q2⟩ := hs
      refine ⟨?_, ?_⟩
      · unfold joinF; split
        · exact .inr rfl
        · exact .inl rfl
      have hj : joinF a (lab p) > 0 ↔ a > 0 ∨ lab p > 0 := by
        unfold joinF
        split
        · rename_i h; exact ⟨fun _ => h, fun _ => by omega⟩
        · rename_i h; exact ⟨fun h' => by omega, fun h' => absurd h' h⟩
      rw [hj, q2]
      constructor
      · rintro (⟨x, hx, hx1, hx2⟩ | hl)
        · exact ⟨x, hx, by simp at hx1 ⊢; exact .inl hx1, hx2⟩
        · exact ⟨e, hes, by simp, lab p, hv, hl⟩
      · rintro ⟨x, hx, hx1, n, hx2, hn⟩
        simp only [Array.contains_eq_mem, Array.mem_push, decide_eq_true_eq] at hx1
        rcases hx1 with hx1 | hx1
        · exact .inl ⟨x, hx, by simpa using hx1, n, hx2, hn⟩
        · right
          have hxe : x = e := by
            have h6 := find_born x es H.once hx
            have h7 := find_born e es H.once hes
            rw [hx1] at h6
            exact Option.some.inj (h6.symm.trans h7)
          rw [hxe, hv] at hx2
          cases hx2
          exact hn
    · cases v4 <;> first | rfl | (exfalso; obtain ⟨_, _, h, _⟩ := s5; cases h)
  case hid =>
    rintro seen S ⟨a, N', w10, w23, w24, w25, w26, w27, w28, w29, w30, rfl, hs, h1, h2, h3, h4, h5⟩ hleft i hi
    have hseen : seen ≠ #[] := by
      rintro rfl
      obtain ⟨e, l, rfl⟩ := List.exists_cons_of_ne_nil hne
      simp [mapLeft] at hleft
    rcases h5 with h5 | ⟨x10, x25, x26, x27, x28, x29, x30, rfl, rfl, rfl, rfl, rfl, rfl, rfl, g10, g25, g26, g27, g28, g29, g30⟩
    · exact absurd h5 hseen
    have hd : MCode.dsts rect_Level_m3 = [25, 26, 10, 27, 28, 29, 30, 8] := rfl
    rw [hd] at hi
    simp only [List.mem_cons, List.not_mem_nil, or_false] at hi
    rcases hi with rfl | rfl | rfl | rfl | rfl | rfl | rfl | rfl
    · exact ⟨x25, rfl, g25⟩
    · exact ⟨x26, rfl, g26⟩
    · exact ⟨x10, rfl, g10⟩
    · exact ⟨x27, rfl, g27⟩
    · exact ⟨x28, rfl, g28⟩
    · exact ⟨x29, rfl, g29⟩
    · exact ⟨x30, rfl, g30⟩
    · exact ⟨.int .u8 a, rfl, rfl⟩
  case hacc =>
    intro p hp
    rw [List.mem_singleton.1 hp]
    refine ⟨by show (8 : Nat) ≠ 23; decide, by show (8 : Nat) ≠ 24; decide, ?_⟩
    rintro seen S ⟨a, N', w10, w23, w24, w25, w26, w27, w28, w29, w30, rfl, ⟨q1, q2⟩, h1, h2, h3, h4, h5⟩ hleft
    have ha : a = raisedF lab P := by
      have hall : ∀ e ∈ es, seen.contains e.born = true := fun e he => by
        cases hc : seen.contains e.born with
        | true => rfl
        | false =>
          have : e ∈ mapLeft seen es := List.mem_filter.2 ⟨he, by rw [hc]; rfl⟩
          rw [hleft] at this; cases this
      have hiff : a > 0 ↔ ∃ p ∈ P, lab p > 0 := by
        rw [q2]
        constructor
        · rintro ⟨e, he, _, n, hv, hn⟩
          obtain ⟨p, hp, _, hv'⟩ := H.of e he
          rw [hv'] at hv; cases hv
          exact ⟨p, hp, hn⟩
        · rintro ⟨p, hp, hn⟩
          obtain ⟨e, he, _, hv⟩ := H.all p hp
          exact ⟨e, he, hall e he, lab p, hv, hn⟩
      unfold raisedF
      split
      · rename_i h; have := hiff.2 h; omega
      · rename_i h
        have : ¬ a > 0 := fun h' => h (hiff.1 h')
        omega
    rw [ha]; rfl
  case fin =>
    intro n
    exact fin n .any
theorem raised_nil {lab : Pl → Int} {es : List MapEntry} {clock : Nat} {P : List Pl} (H : LabE lab es clock P) (h : es = []) : raisedF lab P = 0 := by
  unfold raisedF
  rw [if_neg]
  rintro ⟨p, hp, _⟩
  obtain ⟨e, he, _⟩ := H.all p hp
  rw [h] at he; cases he
theorem rlevel_W (hM : M.base ≤ M.size) {v : Value} {G : Gd} {C : Nat} (h : Gr M v G) (hC : Flush G C) (hC2 : C ≤ 2 ^ 30) (hn : G.length ≤ 2 ^ 20) {M₀ : Mem} {lv : Value} {T : List Rc} (hT : ∀ a ∈ T, a.ok) (hTl : T.length ≤ 2 ^ 30) (hl : New 26 M₀ M lv T) (q : ∀ M', Ext M M' → Q (.int .u8 (levG G T)) M') :
    W funs known (.func (.func n_rect_Level) #[] #[]) [v, lv] M Q := by
  obtain ⟨ad, cap, rfl⟩ := h.shape
  obtain ⟨bv, sp, rfl, gv, lb⟩ := hl
  have lv8 := Mem.lt_of_get gv
  refine rect_Level_wp hM ⟨.map (some M.size), M.push (.map [] 0), rfl, rfl, fun b3 M4 hb3 hM4 => ⟨.map (some M.size), rfl, rfl, by decide, fun M5 hM5 => ?_⟩⟩
  generalize hM2 : M.push (.map [] 0) = M2 at hb3 hM4
  have e2 : Ext M M2 := Ext.push' hM2.symm
  have s2 : M2.size = M.size + 1 := by rw [← hM2]; rfl
  have g2 : M2.get M.size = some (.map [] 0) := by rw [← hM2, Mem.get_push, if_pos rfl]
  have e4 : Ext M2 M4 := Ext.push' hM4
  have s4 : M4.size = M2.size + 1 := by rw [hM4]; rfl
  have e5 : Ext M M5 := hM5 ▸ (e2.trans e4).set (by omega) (by omega) _
  have s5 : M5.size = M4.size := by rw [hM5]; rfl
  have m5 : M5.get M.size = some (.map [] 0) := by rw [hM5, Mem.get_set _ _ _ (by omega), if_neg (by omega)]; exact e4.same g2
  refine rect_cells_wp (e5.ok hM) ⟨rfl, fun bg N2 hbg hN2 => ⟨rfl, fun bl N4 hbl hN4 => ?_⟩⟩
  have f2 : Ext M5 N2 := Ext.push' hN2
  have t2 : N2.size = M5.size + 1 := by rw [hN2]; rfl
  have f4 : Ext N2 N4 := Ext.push' hN4
  have t4 : N4.size = N2.size + 1 := by rw [hN4]; rfl
  have f04 := f2.trans f4
  have eN : Ext M N4 := e5.trans f04
  have hH : Held N4 bl bg bv (.slice (some ⟨bv, 0, sp⟩) T.length T.length) (.slice ad G.length cap) T := ⟨by rw [hN4, Mem.get_push, if_pos hbl], f4.same (by rw [hN2, Mem.get_push, if_pos hbg]), eN.same gv⟩
  refine ⟨f04.keep _, ?_⟩
  have hi : Iter funs known (ceV bl bg) [bl, bg] M N4 (itemsT G T) := rcells_iter (by simp) (by simp) hT hTl (fun N g => New.sl (M := M₀) ⟨bv, sp, rfl, g, lb⟩) (.inr gv) hH h hC hC2 hn
  have mN : N4.get M.size = some (.map [] 0) := f04.same m5
  have hitems := items_places hC T
  have hlen : (itemsT G T).length = (placesT G T).length := by rw [hitems, List.length_map]
  obtain ⟨pl, hpl⟩ : ∃ pl, pl = placesT G T := ⟨_, rfl⟩
  rw [← hpl] at hitems hlen
  refine range_none (X := [bl, bg]) (Mr := M) (M1 := N4) (items := itemsT G T) (g := n_rect_cells_1) (first := #[]) (cap := #[.pointer (some ⟨bl, 0, none⟩), .pointer (some ⟨bg, 0, none⟩)]) (Y0 := [M.size])
    (J := fun n B K P => B = [] ∧ K = [⟨b3, [.map (some M.size)], 94⟩] ∧ Ext M P ∧ MapL (labG G) P M.size (pl.take n))
    (Z := fun _ _ _ _ => False) ?hf ?it ?e1 ?hX ?hY ?len ?Jm ?Zm ?Jr ?Jb ?Zb ?Js ?Zs ?J0 ?body ?done ?zdone
  case hf => rfl
  case it => exact hi
  case e1 => exact Ext.refl _
  case hX =>
    intro b hb
    simp only [List.mem_cons, List.not_mem_nil, or_false] at hb
    refine ⟨by show b < N4.size; omega, ?_⟩
    show b ∉ [b3]
    simp only [List.mem_cons, List.not_mem_nil, or_false]
    omega
  case hY =>
    intro b hb
    rw [List.mem_singleton] at hb
    subst hb
    refine ⟨by show M.size < N4.size; omega, ?_⟩
    simp only [List.mem_cons, List.not_mem_nil, or_false, not_or]
    omega
  case len =>
    intro x hx
    rw [hitems] at hx
    obtain ⟨p, _, rfl⟩ := List.mem_map.1 hx
    rfl
  case Jm =>
    rintro n B K P P' ⟨rfl, rfl, eP, mP⟩ hk
    have kg : ∀ b, b < N4.size → b ∉ [bl, bg] → P'.get b = P.get b := fun b hb hne => hk.get b (.inl ⟨hb, hne⟩)
    have hno : ∀ b, b ≤ M.size → b ∉ [bl, bg] := fun b hb => by
      simp only [List.mem_cons, List.not_mem_nil, or_false, not_or]; omega
    exact ⟨rfl, rfl, ⟨hk.base.trans eP.base, Nat.le_trans eP.size hk.size, fun b hb => (kg b (by omega) (hno b (by omega))).trans (eP.get b hb)⟩, mP.same (kg _ (by omega) (hno _ (Nat.le_refl _)))⟩
  case Zm => exact fun _ _ _ _ _ h _ => h.elim
  case Jr => exact fun _ _ _ _ h => h.2.2.1
  case Jb => intro _ _ _ _ h; rw [h.1]; simp
  case Zb => exact fun _ _ _ _ h => h.elim
  case Js => intro _ _ _ _ h; rw [h.2.1]
  case Zs => exact fun _ _ _ _ h => h.elim
  case J0 => exact ⟨rfl, rfl, eN, [], 0, mN, ⟨by simp, by simp, by simp, by simp⟩⟩
  case body =>
    rintro n x B K P hx ⟨rfl, rfl, eP, mP⟩ bP zP kP
    rw [hitems, List.getElem?_map] at hx
    obtain ⟨p, hp, rfl⟩ := Option.map_eq_some_iff.1 hx
    have zP : N4.size + 2 ≤ P.size := zP
    generalize hce : cellAt G p.1.toNat p.2.toNat = c
    have hlab : labG G p = c.label := by unfold labG; rw [hce]
    refine rect_Level_a1_body ⟨rfl, fun b7 P2 hb7 hP2 => ⟨⟨rfl, rfl, by decide⟩, fun P3 hP3 => ⟨rfl, fun b8 P5 hb8 hP5 => ⟨⟨rfl, rfl, by decide⟩, fun P6 hP6 => ⟨rfl, ?_, fun P7 hag => LGetN.as (plV p) (by exact Nat.le_refl 2) rfl (LGet.mk (v := .int .u8 c.label) rfl ?_)⟩⟩⟩⟩⟩
    · have x2 : Ext P P2 := Ext.push' hP2
      have w2 : P2.size = P.size + 1 := by rw [hP2]; rfl
      have x3 : Ext P P3 := hP3 ▸ x2.set (by omega) (by omega) _
      have w3 : P3.size = P2.size := by rw [hP3]; rfl
      have x5 : Ext P P5 := x3.trans (Ext.push' hP5)
      have w5 : P5.size = P3.size + 1 := by rw [hP5]; rfl
      have x6 : Ext P P6 := hP6 ▸ x5.set (by omega) (by omega) _
      exact x6.get _ (by show N4.size + 1 < P.size; omega)
    have x2 : Ext P P2 := Ext.push' hP2
    have w2 : P2.size = P.size + 1 := by rw [hP2]; rfl
    have x3 : Ext P P3 := hP3 ▸ x2.set (by omega) (by omega) _
    have w3 : P3.size = P2.size := by rw [hP3]; rfl
    have x5 : Ext P P5 := x3.trans (Ext.push' hP5)
    have w5 : P5.size = P3.size + 1 := by rw [hP5]; rfl
    have x6 : Ext P P6 := hP6 ▸ x5.set (by omega) (by omega) _
    have w6 : P6.size = P5.size := by rw [hP6]; rfl
    have hag : Agree (N4.size + 1) P6 P7 := hag
    have w7 := hag.size
    have b7' : P7.base = P.base := hag.base.trans x6.base
    have x7 : ∀ b, b < P.size → b ≠ N4.size + 1 → P7.get b = P.get b := fun b hb hne => (hag.get b hne).trans (x6.get b hb)
    have hbase : P7.base ≤ M.size := by rw [b7']; have := eP.base; omega
    have mP7 : MapL (labG G) P7 M.size (pl.take n) := mP.same (x7 _ (by omega) (by omega))
    rw [← hlab]
    refine step_putL mP7 hbase fun v o hset => ⟨fun b hb _ => ?_, ?_⟩
    · rw [Mem.get_set _ _ _ (by omega), if_neg]
      simp only [List.mem_cons, List.not_mem_nil, or_false] at hb
      omega
    have hm7 : M.size < P7.size := by omega
    have x8 : ∀ b, b < P.size → b ≠ N4.size + 1 → b ≠ M.size → (P7.set M.size o).get b = P.get b := fun b hb hne h3 => by
      rw [Mem.get_set _ _ _ hm7, if_neg h3]; exact x7 b hb hne
    refine ⟨?_, ⟨b7', by show P.size ≤ P7.size; omega, fun b hb hno => ?_⟩, [], by simp, .inl ⟨rfl, rfl, rfl, ?_, ?_⟩⟩
    · show (P7.set M.size o).get (N4.size + 1) = P7.get (N4.size + 1)
      rw [Mem.get_set _ _ _ hm7, if_neg (by omega)]
    · have hno : ¬ (b = N4.size + 1 ∨ b ∈ [b3] ∨ b ∈ [M.size] ∨ b ∈ ([] : List Nat)) := hno
      simp only [List.mem_cons, List.not_mem_nil, or_false, not_or] at hno
      exact x8 b hb hno.1 hno.2.2
    · exact ⟨b7'.trans eP.base, by show M.size ≤ P7.size; omega, fun b hb => (x8 b (by omega) (by omega) (by omega)).trans (eP.get b hb)⟩
    · obtain ⟨h1, h2⟩ := List.getElem?_eq_some_iff.1 hp
      rw [List.take_succ_eq_append_getElem h1, h2]
      exact hset
  case done =>
    rintro B K P ⟨rfl, rfl, eP, mP⟩ bP zP gd
    have zP : N4.size + 2 ≤ P.size := zP
    rw [hlen, List.take_length] at mP
    obtain ⟨es, clock, gm, H⟩ := mP
    have gd : P.get N4.size = some .dblk := gd
    have bM : P.base = M.base := eP.base
    have lev : raisedF (labG G) pl = levG G T := by rw [hpl]; rfl
    have kill : ∀ (P' : Mem), P'.base = P.base → P.size ≤ P'.size → (∀ b, b < P.size → P'.get b = P.get b) → ∃ N', killAll P' [N4.size] = some N' ∧ Ext M N' := by
      intro P' h1 h2 h3
      obtain ⟨N', k1, k2, k3, k4⟩ := kill_ok [N4.size] P' (fun d hd => by
        rw [List.mem_singleton] at hd; subst hd
        exact ⟨by have := eN.size; omega, by rw [h3 _ (by omega)]; exact gd⟩) (by simp)
      exact ⟨N', k1, k2.trans (h1.trans eP.base), by have := eP.size; omega, fun b hb => (k4 b (by simp only [List.mem_singleton]; have := eN.size; omega)).trans ((h3 b (by have := eP.size; omega)).trans (eP.get b hb))⟩
    by_cases hes : es = []
    · subst hes
      refine rect_Level_a1_out (rect_Level_c0_wp ⟨.pointer (some ⟨P.size, 0, none⟩), P.push (.miter (some M.size)), ?_, (Ext.push _ _).keep _, ?_⟩)
      · simp only [opSem, ev, gm]
      refine loopM_nil (r := P.size) (m := M.size) (clock := clock) rfl (by rw [Mem.get_push, if_pos rfl]) (by rw [Mem.get_push, if_neg (by omega)]; exact gm) ⟨by exact Nat.lt_of_lt_of_le (by decide) (Nat.le_refl 32), by exact Nat.lt_of_lt_of_le (by decide) (Nat.le_refl 32)⟩ (blockK.hit (rect_Level_c2_wp ?_))
      obtain ⟨N', k1, k2⟩ := kill (P.push (.miter (some M.size))) rfl (by simp) (fun b hb => by rw [Mem.get_push, if_neg (by omega)])
      refine (retK_ds ⟨N', k1, ?_⟩).2
      have := raised_nil H rfl
      rw [lev] at this
      have hq := q N' k2
      rw [this] at hq
      exact hq
    · have hr : (P.push (.miterL M.size clock #[] clock)).get P.size = some (.miterL M.size clock #[] clock) := by rw [Mem.get_push, if_pos rfl]
      refine rect_Level_a1_out (rect_Level_c0_wp ⟨.pointer (some ⟨P.size, 0, none⟩), P.push (.miterL M.size clock #[] clock), ?_, (Ext.push _ _).keep _, ?_⟩)
      · obtain ⟨e0, l, rfl⟩ := List.exists_cons_of_ne_nil hes
        simp only [opSem, ev, gm]
      refine level_loop (r := P.size) (m := M.size) (clock := clock) H hes [(.v (.slice ad G.length cap)), (.v (.slice (some ⟨bv, 0, sp⟩) T.length T.length)), (.v undef), (.v undef), (.v (.int .u8 0)), .any, (.v undef), (.v undef), (.v undef), (.v undef), (.v undef), (.v (.map (some M.size))), (.v (.slice ad G.length cap)), (.v (.slice (some ⟨bv, 0, sp⟩) T.length T.length)), (.v (ceV bl bg)), (.v undef), (.v undef), (.v undef), (.v undef), (.v undef), (.v undef), (.v undef), (.v undef), (.v undef), (.v undef), (.v undef), (.v undef), (.v undef), (.v undef), (.v undef), (.v undef), (.v undef)] (m10 := .v undef) (m23 := .v undef) (m24 := .v undef) (m25 := .v undef) (m26 := .v undef) (m27 := .v undef) (m28 := .v undef) (m29 := .v undef) (m30 := .v undef) hr (by rw [Mem.get_push, if_neg (by omega)]; exact gm) (by show P.base ≤ P.size; omega) (by show P.base ≤ P.size + 1; omega) fun n w => blockK.hit (rect_Level_c2_wp ?_)
      have sp1 : (P.push (.miterL M.size clock #[] clock)).size = P.size + 1 := rfl
      obtain ⟨N', k1, k2⟩ := kill (Mem.pad n ((P.push (.miterL M.size clock #[] clock)).set P.size .dead)) (pad_base _ _) (by rw [pad_size]; show P.size ≤ P.size + 1 + n; omega) (fun b hb => by
        rw [pad_get, if_pos (show b < ((P.push (.miterL M.size clock #[] clock)).set P.size .dead).size by show b < P.size + 1; omega), Mem.get_set _ _ _ (by omega), if_neg (by omega), Mem.get_push, if_neg (by omega)])
      refine (retK_ds ⟨N', k1, ?_⟩).2
      rw [lev]
      exact q N' k2
  case zdone => exact fun _ _ _ _ h => h.elim
end
end Go.Proofs.Ytklnbkacnghdnaa.Run
namespace Go.Proofs.Ytklnbkacnghdnaa.Run
open Go Go.RowKit
set_option linter.unusedVariables false
set_option linter.unusedSimpArgs false
theorem eqRc (a b : Rc) : eqV true [0, 0, 0, 0] a.val b.val = some (decide (a = b)) := by
  obtain ⟨a1, a2, a3, a4⟩ := a
  obtain ⟨b1, b2, b3, b4⟩ := b
  show eqCells [0, 0, 0, 0] _ _ = _
  refine Eq.trans (eqCells_int (eqCells_int (eqCells_int (eqCells_int eqCells_nil)))) ?_
  congr 1
  simp only [Rc.mk.injEq, Bool.and_true]
  rw [Bool.eq_iff_iff]
  simp only [Bool.and_eq_true, decide_eq_true_eq]
theorem step_neqRc {P : Value → Prop} {a b : Rc} (p : P (.bool (decide (a ≠ b)))) : ∃ v, binV .neq 2 [0, 0, 0, 0] a.val b.val = some v ∧ P v := by
  refine ⟨.bool (decide (a ≠ b)), ?_, p⟩
  have h : binV .neq 2 [0, 0, 0, 0] a.val b.val = (eqV true [0, 0, 0, 0] a.val b.val).bind (negIf .neq) := rfl
  rw [h, eqRc]
  simp [negIf]
theorem step_eqlRc {P : Value → Prop} {a b : Rc} (p : P (.bool (decide (a = b)))) : ∃ v, binV .eql 2 [0, 0, 0, 0] a.val b.val = some v ∧ P v := by
  refine ⟨.bool (decide (a = b)), ?_, p⟩
  have h : binV .eql 2 [0, 0, 0, 0] a.val b.val = (eqV true [0, 0, 0, 0] a.val b.val).bind (negIf .eql) := rfl
  rw [h, eqRc]
  simp [negIf]
theorem w16 (x : Int) : IntKind.u16.wrap x = x % 65536 := rfl
theorem mem_places {m : Rc} (h1 : 0 ≤ m.r) (h2 : 0 ≤ m.c) {p : Pl} : p ∈ placesG m ↔ (m.t ≤ p.1 ∧ p.1 < m.t + m.r) ∧ m.l ≤ p.2 ∧ p.2 < m.l + m.c := by
  unfold placesG
  simp only [List.mem_flatMap, List.mem_map, List.mem_range]
  constructor
  · rintro ⟨i, hi, k, hk, rfl⟩
    exact ⟨⟨by show m.t ≤ m.t + (i : Int); omega, by show m.t + (i : Int) < _; omega⟩, by show m.l ≤ m.l + (k : Int); omega, by show m.l + (k : Int) < _; omega⟩
  · rintro ⟨⟨a, b⟩, c, d⟩
    exact ⟨(p.1 - m.t).toNat, by omega, (p.2 - m.l).toNat, by omega, Prod.ext (by show m.t + ((p.1 - m.t).toNat : Int) = p.1; omega) (by show m.l + ((p.2 - m.l).toNat : Int) = p.2; omega)⟩
def over (f : Pl → Int) (P : List Pl) : Int := (P.map f).sum
theorem over_append (f : Pl → Int) (A B : List Pl) : over f (A ++ B) = over f A + over f B := by
  unfold over
  induction A with
  | nil => simp
  | cons a A ih => simp only [List.cons_append, List.map_cons, List.sum_cons, ih]; omega
def sumTo (g : Nat → Int) : Nat → Int
  | 0 => 0
  | n + 1 => sumTo g n + g n
theorem sumTo_add (g : Nat → Int) (a : Nat) : ∀ b, sumTo g (a + b) = sumTo g a + sumTo (fun i => g (a + i)) b
  | 0 => by simp [sumTo]
  | b + 1 => by
    show sumTo g (a + b) + g (a + b) = _ + (sumTo (fun i => g (a + i)) b + g (a + b))
    rw [sumTo_add g a b]; omega
theorem sumTo_plus (g h : Nat → Int) : ∀ n, sumTo (fun i => g i + h i) n = sumTo g n + sumTo h n
  | 0 => rfl
  | n + 1 => by
    show sumTo (fun i => g i + h i) n + (g n + h n) = (sumTo g n + g n) + (sumTo h n + h n)
    rw [sumTo_plus g h n]; omega
theorem sumTo_congr {g h : Nat → Int} (e : ∀ i, g i = h i) (n : Nat) : sumTo g n = sumTo h n := by
  have : g = h := funext e
  rw [this]
theorem over_range (f : Pl → Int) (q : Nat → Pl) : ∀ n, over f ((List.range n).map q) = sumTo (fun k => f (q k)) n
  | 0 => rfl
  | n + 1 => by
    rw [List.range_succ, List.map_append, over_append, over_range f q n]
    show _ + over f [q n] = _ + _
    simp [over]
theorem over_flat (f : Pl → Int) (q : Nat → List Pl) : ∀ n, over f ((List.range n).flatMap q) = sumTo (fun i => over f (q i)) n
  | 0 => rfl
  | n + 1 => by
    rw [List.range_succ, List.flatMap_append, over_append, over_flat f q n]
    show _ + over f ([n].flatMap q) = _ + _
    simp
theorem over_places (f : Pl → Int) (m : Rc) : over f (placesG m) = sumTo (fun i => sumTo (fun k => f (m.t + (i : Nat), m.l + (k : Nat))) m.c.toNat) m.r.toNat := by
  unfold placesG
  rw [over_flat]
  exact sumTo_congr (fun i => over_range f _ _) _
theorem over_parts (f : Pl → Int) {r : Rc} {u l : Int} (hu : 0 ≤ u ∧ u ≤ r.r) (hl : 0 ≤ l ∧ l ≤ r.c) :
    over f (placesG r) = over f (placesG ⟨r.t, r.l, u, l⟩) + over f (placesG ⟨r.t, r.l + l, u, r.c - l⟩) + over f (placesG ⟨r.t + u, r.l, r.r - u, l⟩) + over f (placesG ⟨r.t + u, r.l + l, r.r - u, r.c - l⟩) := by
  simp only [over_places]
  have h1 : r.r.toNat = u.toNat + (r.r - u).toNat := by omega
  have h2 : r.c.toNat = l.toNat + (r.c - l).toNat := by omega
  have row : ∀ i : Int, sumTo (fun k => f (i, r.l + (k : Nat))) r.c.toNat = sumTo (fun k => f (i, r.l + (k : Nat))) l.toNat + sumTo (fun k => f (i, r.l + l + (k : Nat))) (r.c - l).toNat := fun i => by
    rw [h2, sumTo_add]
    congr 1
    exact sumTo_congr (fun k => by rw [show r.l + ((l.toNat + k : Nat) : Int) = r.l + l + (k : Nat) by omega]) _
  rw [sumTo_congr (fun i => row (r.t + (i : Nat))) r.r.toNat, sumTo_plus, h1, sumTo_add, sumTo_add]
  have e1 : ∀ (g : Int → Int), sumTo (fun i => g (r.t + ((u.toNat + i : Nat) : Int))) (r.r - u).toNat = sumTo (fun i => g (r.t + u + (i : Nat))) (r.r - u).toNat := fun g => sumTo_congr (fun i => by rw [show r.t + ((u.toNat + i : Nat) : Int) = r.t + u + (i : Nat) by omega]) _
  rw [e1 (fun i => sumTo (fun k => f (i, r.l + (k : Nat))) l.toNat), e1 (fun i => sumTo (fun k => f (i, r.l + l + (k : Nat))) (r.c - l).toNat)]
  omega
def cellP (G : Gd) (p : Pl) : Ce := cellAt G p.1.toNat p.2.toNat
def numP (G : Gd) (p : Pl) : Int := numF (cellP G p)
theorem cells_places {G : Gd} {m : Rc} (h1 : 0 ≤ m.t) (h2 : 0 ≤ m.l) : cellsG G m = (placesG m).map (cellP G) := by
  unfold cellsG placesG
  rw [List.map_flatMap]
  congr 1
  funext i
  rw [List.map_map]
  congr 1
  funext k
  show _ = cellAt G (m.t + (i : Nat)).toNat (m.l + (k : Nat)).toNat
  rw [show (m.t + (i : Nat)).toNat = m.t.toNat + i by omega, show (m.l + (k : Nat)).toNat = m.l.toNat + k by omega]
theorem fold_sum (G : Gd) : ∀ (P : List Pl) (x l : Int), x % 65536 = x → (l = 0 ∨ l = 1) →
    ((P.map (cellP G)).foldl sumS (x, l)).1 = (x - over (numP G) P) % 65536 ∧ ((P.map (cellP G)).foldl sumS (x, l)).2 = if l > 0 ∨ ∃ p ∈ P, labG G p > 0 then 1 else 0
  | [], x, l, hx, hl => by
    refine ⟨by simp [over, hx], ?_⟩
    rcases hl with rfl | rfl
    · rw [if_neg (by simp)]; rfl
    · rw [if_pos (.inl (by decide))]; rfl
  | p :: P, x, l, hx, hl => by
    simp only [List.map_cons, List.foldl_cons]
    have hs : sumS (x, l) (cellP G p) = ((x - numP G p % 65536) % 65536, joinF l (labG G p)) := rfl
    rw [hs]
    obtain ⟨h1, h2⟩ := fold_sum G P ((x - numP G p % 65536) % 65536) (joinF l (labG G p)) (by omega) (by unfold joinF; split; exact .inr rfl; exact .inl rfl)
    refine ⟨?_, ?_⟩
    · rw [h1]
      have : over (numP G) (p :: P) = numP G p + over (numP G) P := by simp [over]
      rw [this]; omega
    · rw [h2]
      have hj : joinF l (labG G p) > 0 ↔ l > 0 ∨ labG G p > 0 := by
        unfold joinF
        split
        · rename_i h; exact ⟨fun _ => h, fun _ => by omega⟩
        · rename_i h; exact ⟨fun h' => by omega, fun h' => absurd h' h⟩
      by_cases hc : l > 0 ∨ ∃ q ∈ p :: P, labG G q > 0
      · rw [if_pos hc, if_pos]
        rcases hc with hc | ⟨q, hq, hc⟩
        · exact .inl (hj.2 (.inl hc))
        · cases hq with
          | head => exact .inl (hj.2 (.inr hc))
          | tail _ hq => exact .inr ⟨q, hq, hc⟩
      · rw [if_neg hc, if_neg]
        rintro (h | ⟨q, hq, h⟩)
        · rcases hj.1 h with h | h
          · exact hc (.inl h)
          · exact hc (.inr ⟨p, .head _, h⟩)
        · exact hc (.inr ⟨q, .tail _ hq, h⟩)
theorem sumG_places {G : Gd} {C : Nat} (hC : Flush G C) (a : Rc) : (sumG G a).1 = (- over (numP G) (placesG (clippedF G a))) % 65536 ∧ (sumG G a).2 = raisedF (labG G) (placesG (clippedF G a)) := by
  have hw := clipped_within hC a
  unfold sumG
  rw [cells_places hw.t hw.l]
  obtain ⟨h1, h2⟩ := fold_sum G (placesG (clippedF G a)) 0 0 rfl (.inl rfl)
  refine ⟨by rw [h1]; congr 1; omega, ?_⟩
  rw [h2]
  unfold raisedF
  by_cases h : ∃ p ∈ placesG (clippedF G a), labG G p > 0
  · rw [if_pos (.inr h), if_pos h]
  · rw [if_neg (fun h' => h'.elim (by omega) h), if_neg h]
theorem places_clip {G : Gd} {C : Nat} (hC : Flush G C) (hne : G ≠ []) {p : Rc} (h : p.within G.length C) : placesG (clippedF G p) = placesG p := by
  have hcl : clippedF G p = clipF p G.length C := by
    cases G with
    | nil => exact absurd rfl hne
    | cons L G => unfold clippedF; simp only; rw [hC L List.mem_cons_self]
  rw [hcl]
  have h3 := h.r; have h4 := h.c
  by_cases hp : 0 < p.r ∧ 0 < p.c
  · rw [clip_own h ⟨fun _ => hp.2, fun _ => hp.1⟩ (fun h' => by omega)]
  · have e1 : placesG p = [] := by
      apply List.eq_nil_iff_forall_not_mem.2
      intro q hq
      rw [mem_places h3 h4] at hq
      omega
    have e2 : clipF p G.length C = zeroR := by
      unfold clipF
      rw [if_pos]
      · rfl
      · by_cases h5 : 0 < p.r
        · right
          unfold rspanF
          rw [if_pos (.inl (by omega))]; exact Int.le_refl _
        · left
          unfold rspanF
          rw [if_pos (.inl (by omega))]; exact Int.le_refl _
    rw [e1, e2]
    rfl
end Go.Proofs.Ytklnbkacnghdnaa.Run
