/- Screens of tiles: what compose.Screen and compose.Only make, and that it is alike to Low if the tiles are. -/
import Derived.Test.YtkelbhcaecojkaaLow
import Derived.Test.YtkelbhcaecojkaaRc
namespace Go.Proofs.Ytkelbhcaecojkaa.Run
open Go Go.RowKit
set_option linter.unusedVariables false
set_option linter.unusedSimpArgs false

/-- a tile: its rectangle, and where its cells are -/
structure Tl where
  r : Rc
  v : Value
instance : Enc Tl := ⟨5, fun a => [.int .i64 a.r.t, .int .i64 a.r.l, .int .i64 a.r.r, .int .i64 a.r.c, a.v], fun _ => rfl, by decide⟩
abbrev Tls := List (Tl × Gd)
abbrev Tls.row (T : Tls) : List Tl := T.map (·.1)

/-- a row of a tile, laid into a row -/
def layF (L own : List Ce) (x f n : Int) : List Ce :=
  if min n (own.length - f) ≤ 0 then L else
  (brk2 L x (x + min n (own.length - f))).take x.toNat ++ ((brk2 own f (f + min n (own.length - f))).drop f.toNat).take (min n (own.length - f)).toNat ++ (brk2 L x (x + min n (own.length - f))).drop (x.toNat + (min n (own.length - f)).toNat)
theorem layF_len {L own : List Ce} {x f n : Int} (h : 0 ≤ x ∧ 0 ≤ f ∧ x + n ≤ L.length) : (layF L own x f n).length = L.length := by
  unfold layF
  split
  · rfl
  · simp only [List.length_append, List.length_take, List.length_drop, brk2_len]
    omega
theorem layF_wh {L own : List Ce} {x f n : Int} (h : 0 ≤ x ∧ 0 ≤ f ∧ x + n ≤ L.length) (w : Wh L) (u : Wh own) : Wh (layF L own x f n) := by
  unfold layF
  split
  · exact w
  rename_i hm
  generalize hmd : min n ((own.length : Int) - f) = m at hm
  have hB : ∀ j, cutF (Run.brk2 L x (x + m)) j = true → j ≠ x.toNat ∧ j ≠ x.toNat + m.toNat := fun j hj => by
    have := brk2_cut _ _ _ hj
    rw [clampN_of (by omega) (by omega), clampN_of (by omega) (by omega)] at this
    exact ⟨this.1, fun e => this.2 (by omega)⟩
  have hT : ∀ j, cutF (Run.brk2 own f (f + m)) j = true → j ≠ f.toNat ∧ j ≠ (f + m).toNat := fun j hj => by
    have := brk2_cut _ _ _ hj
    rw [clampN_of (by omega) (by omega), clampN_of (by omega) (by omega)] at this
    exact this
  have wB := w.brk2 x (x + m)
  have wT := u.brk2 f (f + m)
  have e : ((Run.brk2 own f (f + m)).drop f.toNat).take m.toNat = ((Run.brk2 own f (f + m)).take (f + m).toNat).drop f.toNat := by
    rw [List.drop_take]; congr 1; omega
  rw [e]
  exact ((wB.take fun hc => (hB _ hc).1 rfl).append ((wT.take fun hc => (hT _ hc).2 rfl).drop fun hc => (hT _ (cut_take hc)).1 rfl)).append (wB.drop fun hc => (hB _ hc).2 rfl)
theorem layF_lb {L own : List Ce} {x f n : Int} (h : Lb L) (k : Lb own) : Lb (layF L own x f n) := by
  unfold layF
  split
  · exact h
  · exact (((h.brk2 _ _).take _).append (((k.brk2 _ _).drop _).take _)).append ((h.brk2 _ _).drop _)
theorem layF_low {L L' own own' : List Ce} {x f n : Int} (wL : Wh L) (wL' : Wh L') (wO : Wh own) (wO' : Wh own') (h : Low L L') (k : Low own own') : Low (layF L own x f n) (layF L' own' x f n) := by
  unfold layF
  rw [← k.len]
  split
  · exact h
  · have hB := low_brk2 wL wL' h x (x + min n ((own.length : Int) - f))
    have hT := low_brk2 wO wO' k f (f + min n ((own.length : Int) - f))
    exact ((hB.take _).append ((hT.drop _).take _)).append (hB.drop _)

/-- a tile is laid: of the rows ahead of row n -/
def tileTo (R C : Int) (a : Tl × Gd) (n : Int) (G : Gd) : Gd := G.mapIdx fun i L => if max 1 (clipF a.1.r R C).t ≤ i ∧ (i : Int) < (clipF a.1.r R C).t + (clipF a.1.r R C).r ∧ (i : Int) - a.1.r.t < a.2.length ∧ (i : Int) < n then layF L (a.2.getD ((i : Int) - a.1.r.t).toNat []) (clipF a.1.r R C).l ((clipF a.1.r R C).l - a.1.r.l) (clipF a.1.r R C).c else L
def tileF (R C : Int) (a : Tl × Gd) (G : Gd) : Gd := tileTo R C a R G
def screen0 (R C : Nat) (banner : List Ce) : Gd := resizeF banner C zeroC :: List.replicate (R - 1) (List.replicate C zeroC)
def screenF (R C : Nat) (banner : List Ce) (T : Tls) : Gd := T.foldl (fun G a => tileF R C a G) (screen0 R C banner)

theorem tileTo_get (R C : Int) (a : Tl × Gd) (n : Int) (G : Gd) (i : Nat) : (tileTo R C a n G)[i]? = (G[i]?).map fun L => if max 1 (clipF a.1.r R C).t ≤ i ∧ (i : Int) < (clipF a.1.r R C).t + (clipF a.1.r R C).r ∧ (i : Int) - a.1.r.t < a.2.length ∧ (i : Int) < n then layF L (a.2.getD ((i : Int) - a.1.r.t).toNat []) (clipF a.1.r R C).l ((clipF a.1.r R C).l - a.1.r.l) (clipF a.1.r R C).c else L := by unfold tileTo; rw [List.getElem?_mapIdx]
theorem tileTo_len (R C : Int) (a : Tl × Gd) (n : Int) (G : Gd) : (tileTo R C a n G).length = G.length := by unfold tileTo; simp

/-- where a rectangle is clipped, it begins behind its own corner -/
theorem rspan_ge {f n m : Int} (h : (rspanF f n m).1 < (rspanF f n m).2) : f ≤ (rspanF f n m).1 := by
  unfold rspanF at *
  split
  · rename_i hc; rw [if_pos hc] at h; simp only at h; omega
  · split <;> simp only <;> omega
theorem clip_corner {a : Rc} {R C : Int} (h : 0 < (clipF a R C).r) : a.t ≤ (clipF a R C).t ∧ a.l ≤ (clipF a R C).l := by
  have g1 := @rspan_ge a.t a.r R
  have g2 := @rspan_ge a.l a.c C
  unfold clipF at *
  split
  · rename_i hc; rw [if_pos hc] at h; simp only at h; omega
  · simp only
    exact ⟨g1 (by omega), g2 (by omega)⟩

structure Scr (G : Gd) (R C : Nat) : Prop where
  len : G.length = R
  row : ∀ L ∈ G, L.length = C
theorem Scr.tileTo {G : Gd} {R C : Nat} (h : Scr G R C) (a : Tl × Gd) (n : Int) : Scr (Run.tileTo R C a n G) R C := by
  refine ⟨by rw [tileTo_len]; exact h.len, fun L hL => ?_⟩
  obtain ⟨i, hi⟩ := List.mem_iff_getElem?.1 hL
  rw [tileTo_get] at hi
  obtain ⟨K, hK, rfl⟩ := Option.map_eq_some_iff.1 hi
  have hKl := h.row K (List.mem_of_getElem? hK)
  have w := clip_within (a := a.1.r) (R := R) (C := C) (by omega) (by omega)
  split
  · rename_i hc
    rw [layF_len ⟨w.l, ?_, by rw [hKl]; exact w.e⟩, hKl]
    have := clip_corner (a := a.1.r) (R := R) (C := C) (by omega)
    omega
  · exact hKl
theorem scr0 (R C : Nat) (hR : 0 < R) (b : List Ce) : Scr (screen0 R C b) R C := by
  refine ⟨by unfold screen0; simp; omega, fun L hL => ?_⟩
  rcases List.mem_cons.1 hL with rfl | h
  · exact resizeF_len _ _ _
  · rw [(List.mem_replicate.1 h).2]; simp

/-- what is known of tiles -/
structure TlsOK (T : Tls) : Prop where
  wh : ∀ a ∈ T, WhG a.2
  lb : ∀ a ∈ T, LbG a.2
theorem tile_ok {G : Gd} {R C : Nat} (h : Scr G R C) (w : WhG G) (lb : LbG G) {a : Tl × Gd} (wa : WhG a.2) (la : LbG a.2) : WhG (tileF R C a G) ∧ LbG (tileF R C a G) := by
  have wc := clip_within (a := a.1.r) (R := R) (C := C) (by omega) (by omega)
  have own : ∀ i : Nat, max 1 (clipF a.1.r R C).t ≤ i ∧ (i : Int) < (clipF a.1.r R C).t + (clipF a.1.r R C).r ∧ (i : Int) - a.1.r.t < a.2.length ∧ (i : Int) < (R : Int) → a.2.getD ((i : Int) - a.1.r.t).toNat [] ∈ a.2 ∧ 0 ≤ (clipF a.1.r R C).l - a.1.r.l := fun i hc => by
    have := clip_corner (a := a.1.r) (R := R) (C := C) (by omega)
    exact ⟨getD_mem (by omega), by omega⟩
  constructor <;>
  · intro L hL
    obtain ⟨i, hi⟩ := List.mem_iff_getElem?.1 hL
    unfold tileF at hi
    rw [tileTo_get] at hi
    obtain ⟨K, hK, rfl⟩ := Option.map_eq_some_iff.1 hi
    have hKm := List.mem_of_getElem? hK
    have hKl := h.row K hKm
    split
    · rename_i hc
      obtain ⟨h1, h2⟩ := own i hc
      first
        | exact layF_wh ⟨wc.l, h2, by rw [hKl]; exact wc.e⟩ (w K hKm) (wa _ h1)
        | exact layF_lb (lb K hKm) (la _ h1)
    · first
        | exact w K hKm
        | exact lb K hKm
theorem tile_low {G H : Gd} {R C : Nat} (hG : Scr G R C) (wG : WhG G) (wH : WhG H) (h : LowG G H) {a b : Tl × Gd} (hr : a.1.r = b.1.r) (wa : WhG a.2) (wb : WhG b.2) (hab : LowG a.2 b.2) : LowG (tileF R C a G) (tileF R C b H) := by
  unfold tileF
  refine ⟨by rw [tileTo_len, tileTo_len]; exact h.len, fun i L K hL hK => ?_⟩
  rw [tileTo_get] at hL hK
  obtain ⟨L', hL', rfl⟩ := Option.map_eq_some_iff.1 hL
  obtain ⟨K', hK', rfl⟩ := Option.map_eq_some_iff.1 hK
  rw [← hr, ← hab.len]
  split
  · rename_i hc
    have := clip_corner (a := a.1.r) (R := R) (C := C) (by omega)
    have wc := clip_within (a := a.1.r) (R := R) (C := C) (by omega) (by omega)
    exact layF_low (wG _ (List.mem_of_getElem? hL')) (wH _ (List.mem_of_getElem? hK')) (wa _ (getD_mem (by omega))) (wb _ (getD_mem (by have := hab.len; omega))) (h.row i _ _ hL' hK') (hab.getD _)
  · exact h.row i _ _ hL' hK'

/-- tiles that look alike to Low -/
inductive LowT : Tls → Tls → Prop
  | nil : LowT [] []
  | cons {a b : Tl × Gd} {T U : Tls} : a.1.r = b.1.r → WhG a.2 → WhG b.2 → LbG a.2 → LbG b.2 → LowG a.2 b.2 → LowT T U → LowT (a :: T) (b :: U)
theorem tiles_low {R C : Nat} : ∀ {T U : Tls}, LowT T U → ∀ {G H : Gd}, Scr G R C → Scr H R C → WhG G → WhG H → LbG G → LbG H → LowG G H →
    LowG (T.foldl (fun G a => tileF R C a G) G) (U.foldl (fun G a => tileF R C a G) H) ∧ Scr (T.foldl (fun G a => tileF R C a G) G) R C ∧ LbG (T.foldl (fun G a => tileF R C a G) G) := by
  intro T U h
  induction h with
  | nil => exact fun s _ _ _ l _ h => ⟨h, s, l⟩
  | cons hr wa wb la lb hab _ ih =>
    intro G H sG sH wG wH lG lH h
    obtain ⟨g1, g2⟩ := tile_ok sG wG lG wa la
    obtain ⟨h1, h2⟩ := tile_ok sH wH lH wb lb
    exact ih (sG.tileTo _ _) (sH.tileTo _ _) g1 h1 g2 h2 (tile_low sG wG wH h hr wa wb hab)
theorem screen0_ok (R C : Nat) {b : List Ce} (w : Wh b) (lb : Lb b) : WhG (screen0 R C b) ∧ LbG (screen0 R C b) := by
  constructor
  · intro L hL
    rcases List.mem_cons.1 hL with rfl | h
    · exact w.resize _ rfl
    · rw [(List.mem_replicate.1 h).2]; exact .rep _ rfl
  · intro L hL
    rcases List.mem_cons.1 hL with rfl | h
    · unfold resizeF; exact ((lb.brk _).take _).append (.rep _ (.inl rfl))
    · rw [(List.mem_replicate.1 h).2]; exact .rep _ (.inl rfl)
theorem screen0_low (R C : Nat) {b d : List Ce} (w : Wh b) (u : Wh d) (h : Low b d) : LowG (screen0 R C b) (screen0 R C d) := by
  refine ⟨by simp [screen0], fun i L K hL hK => ?_⟩
  cases i with
  | zero => cases hL; cases hK; exact low_resize w u h _ _
  | succ i =>
    have e : L = K := by
      have hL : (List.replicate (R - 1) (List.replicate C zeroC))[i]? = some L := hL
      have hK : (List.replicate (R - 1) (List.replicate C zeroC))[i]? = some K := hK
      rw [hL] at hK; exact Option.some.inj hK
    rw [e]; exact Low.refl _
theorem screen_low {R C : Nat} (hR : 0 < R) {b d : List Ce} (w : Wh b) (u : Wh d) (lb : Lb b) (ld : Lb d) (h : Low b d) {T U : Tls} (t : LowT T U) : LowG (screenF R C b T) (screenF R C d U) ∧ Scr (screenF R C b T) R C ∧ LbG (screenF R C b T) := by
  obtain ⟨a1, a2⟩ := screen0_ok R C w lb
  obtain ⟨b1, b2⟩ := screen0_ok R C u ld
  exact tiles_low t (scr0 R C hR b) (scr0 R C hR d) a1 b1 a2 b2 (screen0_low R C w u h)

/-! ### What Low sees -/

def onlyC (c : Ce) : Ce := if c.label = 0 then c else { zeroC with label := c.label }
def onlyF (G : Gd) : Gd := G.map (·.map onlyC)
theorem only_low {A B : Gd} (h : LowG A B) : onlyF A = onlyF B := by
  unfold onlyF
  refine List.ext_getElem? fun i => ?_
  rw [List.getElem?_map, List.getElem?_map]
  by_cases hi : i < A.length
  · obtain ⟨L, hL⟩ : ∃ L, A[i]? = some L := ⟨_, List.getElem?_eq_getElem hi⟩
    obtain ⟨K, hK, r⟩ := h.get hL
    rw [hL, hK]
    simp only [Option.map_some]
    congr 1
    refine List.ext_getElem? fun k => ?_
    rw [List.getElem?_map, List.getElem?_map]
    by_cases hk : k < L.length
    · obtain ⟨c, hc⟩ : ∃ c, L[k]? = some c := ⟨_, List.getElem?_eq_getElem hk⟩
      obtain ⟨d, hd, q⟩ := r.get hc
      rw [hc, hd]
      simp only [Option.map_some]
      congr 1
      unfold onlyC
      rw [← q.1]
      split
      · rename_i h0; exact q.2 h0
      · rfl
    · rw [List.getElem?_eq_none (by omega), List.getElem?_eq_none (by have := r.len; omega)]
  · rw [List.getElem?_eq_none (by omega), List.getElem?_eq_none (by have := h.len; omega)]
end Go.Proofs.Ytkelbhcaecojkaa.Run
