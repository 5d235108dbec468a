/- What an act of chapter 10 does to a row. -/
import Derived.Test.YtokmjepnohjmdaaRowH
import Derived.Test.YtokmjepnohjmdaaVcC
namespace Go.Proofs.Ytokmjepnohjmdaa.Run
open Go Go.RowKit
set_option linter.unusedVariables false
set_option linter.unusedSimpArgs false

/-- an act -/
structure Ac where
  what : Int
  pos : Int
  n : Int
  wide : Bool
  d : Dr
instance : Enc Ac := ⟨9, fun a => [.int .u8 a.what, .int .u8 a.pos, .int .u8 a.n, .bool a.wide, .int .u8 a.d.rune, .int .u8 a.d.marks, .int .u8 a.d.attr, .bool a.d.wide, .bool a.d.high], fun _ => rfl, by decide⟩
abbrev Ac.val (a : Ac) : Value := .agg (Enc.enc a).toArray
structure Ac.ok (a : Ac) : Prop where
  what : 0 ≤ a.what ∧ a.what ≤ 255
  pos : 0 ≤ a.pos ∧ a.pos ≤ 255
  n : 0 ≤ a.n ∧ a.n ≤ 255
  d : a.d.ok
def atF (a : Ac) (len : Nat) : Int := if a.pos > 250 then a.pos - 253 else a.pos % (len + 3)
theorem atF_in {a : Ac} (h : a.ok) (len : Nat) : -2 ≤ atF a len ∧ atF a len ≤ 255 := by
  have := h.pos
  unfold atF
  split
  · omega
  · have h1 : 0 ≤ a.pos % ((len : Int) + 3) := Int.emod_nonneg _ (by omega)
    have h2 : a.pos % ((len : Int) + 3) ≤ a.pos := by
      obtain ⟨p, hp⟩ : ∃ p : Nat, a.pos = (p : Int) := ⟨a.pos.toNat, by omega⟩
      rw [hp]
      exact_mod_cast Nat.mod_le p (len + 3)
    omega
def doesF (a : Ac) (L : List Ce) : List Ce :=
  if a.what % 15 = 0 then brk2 L (atF a L.length) (atF a L.length + (a.n % 8 - 1))
  else if a.what % 15 = 5 ∨ a.what % 15 = 6 then insertF L (atF a L.length) (a.n % 8 - 1) (blankF (cellF a.d).attr (cellF a.d).label)
  else if a.what % 15 = 7 ∨ a.what % 15 = 8 then deleteF L (atF a L.length) (a.n % 8 - 1) (blankF (cellF a.d).attr (cellF a.d).label)
  else if a.what % 15 = 9 ∨ a.what % 15 = 10 then eraseF L (atF a L.length) (atF a L.length + (a.n % 8 - 1)) (blankF (cellF a.d).attr (cellF a.d).label)
  else if a.what % 15 = 11 ∨ a.what % 15 = 12 then markF L (atF a L.length) 769 (cellF a.d).label
  else if a.what % 15 = 13 then resizeF L (min ((L.length : Int) + (a.n % 8 - 1)) 40).toNat (blankF (cellF a.d).attr (cellF a.d).label)
  else if a.what % 15 = 14 then L.map (Ce.raise (cellF a.d).label)
  else putF L (atF a L.length) (cellF a.d) a.wide

section
variable {M : Mem} {Q : Value → Mem → Prop}
theorem at_W (hM : M.base ≤ M.size) {a : Ac} (ok : a.ok) {v : Value} {L : List Ce} {N : Mem} (h : Sl N v L) (hL : L.length ≤ 2 ^ 30) (q : ∀ M', Ext M M' → Q (.int .i64 (atF a L.length)) M') : W funs known (.func (.func n_law10_Act_at) #[] #[]) [a.val, v] M Q := by
  obtain ⟨ad, cap, rfl⟩ := h.shape
  have := ok.pos
  refine law10_Act_at_wp hM ⟨rfl, fun b1 M2 hb1 hM2 => ?_⟩
  have e2 : Ext M M2 := Ext.push' hM2
  have q := q M2 e2
  unfold atF at q
  refine step_gtr (wpIf.dec (fun h1 => ?_) (fun h1 => ?_))
  · rw [if_pos h1] at q
    exact step_conv (IntWalk.i64_in _ (by omega)) (step_sub (by omega) (by omega) q)
  · rw [if_neg h1] at q
    exact step_conv (IntWalk.i64_in _ (by omega)) (step_len (step_add (by omega) (by omega) (step_rem64 (by omega) (by omega) q)))

set_option maxHeartbeats 2000000 in
theorem does_W (hM : M.base ≤ M.size) {a : Ac} (ok : a.ok) {v : Value} {L : List Ce} (h : Sl M v L) (hL : L.length ≤ 2 ^ 30) (q : ∀ M' r, Ext M M' → New 37 M M' r (doesF a L) → Q r M') : W funs known (.func (.func n_law10_Act_does) #[] #[]) [a.val, v] M Q := by
  obtain ⟨ad, cap, rfl⟩ := h.shape
  have o1 := ok.what
  have o2 := ok.n
  have o3 := atF_in ok L.length
  refine law10_Act_does_wp hM ⟨rfl, fun b1 M2 hb1 hM2 => ?_⟩
  have e2 : Ext M M2 := Ext.push' hM2
  refine at_W (freeze_ok M2) ok (h.ext e2).freeze hL fun M4 e4 => ⟨e4.keepF _, step_rem8 (by omega) (by omega) (step_conv (IntWalk.i64_in _ (by omega)) (step_sub (by omega) (by omega) ?_))⟩
  have e04 := e2.trans (Ext.thaw e4)
  refine cell_W (d := a.d) (freeze_ok _) ok.d fun M9 e9 => ⟨e9.keepF _, rfl, fun b10 M11 hb10 hM11 => ⟨⟨rfl, rfl, by decide⟩, fun M12 hM12 => ?_⟩⟩
  have e09 : Ext M (M9.thaw M2.base) := e04.trans (Ext.thaw e9)
  have e11 : Ext M M11 := e09.trans (Ext.push' hM11)
  have s9 := e09.size
  have s11 : M11.size = (M9.thaw M2.base).size + 1 := by rw [hM11]; rfl
  have e12 : Ext M M12 := hM12 ▸ e11.set (by omega) (by omega) _
  refine LGetN.as (.agg (cellF a.d).attr.cells.toArray) (by exact Nat.lt_of_lt_of_le (by decide) (Nat.le_refl 14)) rfl (LGet.mk (v := .int .u8 (cellF a.d).label) rfl ?_)
  refine blank_W (e12.ok hM) fun M16 e16 => ⟨e16.keep _, rfl, fun b17 M18 hb17 hM18 => ⟨⟨rfl, rfl, by decide⟩, fun M19 hM19 => ?_⟩⟩
  have e016 := e12.trans e16
  have s16 := e016.size
  have e18 : Ext M M18 := e016.trans (Ext.push' hM18)
  have s18 : M18.size = M16.size + 1 := by rw [hM18]; rfl
  have e19 : Ext M M19 := hM19 ▸ e18.set (by omega) (by omega) _
  have k19 := e19.ok hM
  refine step_rem8 (by omega) (by omega) (step_eql (wpIf.dec (fun w0 => ?_) (fun w0 => ?_)))
  · have hdo : doesF a L = brk2 L (atF a L.length) (atF a L.length + (a.n % 8 - 1)) := by unfold doesF; rw [if_pos w0]
    rw [hdo] at q
    exact step_add (by omega) (by omega) (brk2_W' k19 (h.ext e19) hL fun M3 r e3 n3 => q M3 r (e19.trans e3) (n3.old e19))
  refine step_eql (wpIf.dec (fun w5 => ?_) (fun w5 => step_eql (wpIf.dec (fun w6 => ?_) (fun w6 => ?_))))
  · have hdo : doesF a L = insertF L (atF a L.length) (a.n % 8 - 1) (blankF (cellF a.d).attr (cellF a.d).label) := by unfold doesF; rw [if_neg (by omega), if_pos (by omega)]
    rw [hdo] at q
    exact LGetN.as (blankF (cellF a.d).attr (cellF a.d).label).val (by exact Nat.le_refl 14) rfl (insert_W k19 (h.ext e19) hL fun M3 r e3 n3 => ⟨e3.keep _, q M3 r (e19.trans e3) (n3.old e19)⟩)
  · have hdo : doesF a L = insertF L (atF a L.length) (a.n % 8 - 1) (blankF (cellF a.d).attr (cellF a.d).label) := by unfold doesF; rw [if_neg (by omega), if_pos (by omega)]
    rw [hdo] at q
    exact LGetN.as (blankF (cellF a.d).attr (cellF a.d).label).val (by exact Nat.le_refl 14) rfl (insert_W k19 (h.ext e19) hL fun M3 r e3 n3 => ⟨e3.keep _, q M3 r (e19.trans e3) (n3.old e19)⟩)
  refine step_eql (wpIf.dec (fun w7 => ?_) (fun w7 => step_eql (wpIf.dec (fun w8 => ?_) (fun w8 => ?_))))
  · have hdo : doesF a L = deleteF L (atF a L.length) (a.n % 8 - 1) (blankF (cellF a.d).attr (cellF a.d).label) := by unfold doesF; rw [if_neg (by omega), if_neg (by omega), if_pos (by omega)]
    rw [hdo] at q
    exact LGetN.as (blankF (cellF a.d).attr (cellF a.d).label).val (by exact Nat.le_refl 14) rfl (delete_W k19 (h.ext e19) hL fun M3 r e3 n3 => ⟨e3.keep _, q M3 r (e19.trans e3) (n3.old e19)⟩)
  · have hdo : doesF a L = deleteF L (atF a L.length) (a.n % 8 - 1) (blankF (cellF a.d).attr (cellF a.d).label) := by unfold doesF; rw [if_neg (by omega), if_neg (by omega), if_pos (by omega)]
    rw [hdo] at q
    exact LGetN.as (blankF (cellF a.d).attr (cellF a.d).label).val (by exact Nat.le_refl 14) rfl (delete_W k19 (h.ext e19) hL fun M3 r e3 n3 => ⟨e3.keep _, q M3 r (e19.trans e3) (n3.old e19)⟩)
  refine step_eql (wpIf.dec (fun w9 => ?_) (fun w9 => step_eql (wpIf.dec (fun w10 => ?_) (fun w10 => ?_))))
  · have hdo : doesF a L = eraseF L (atF a L.length) (atF a L.length + (a.n % 8 - 1)) (blankF (cellF a.d).attr (cellF a.d).label) := by unfold doesF; rw [if_neg (by omega), if_neg (by omega), if_neg (by omega), if_pos (by omega)]
    rw [hdo] at q
    exact step_add (by omega) (by omega) (LGetN.as (blankF (cellF a.d).attr (cellF a.d).label).val (by exact Nat.le_refl 14) rfl (erase_W k19 (h.ext e19) hL fun M3 r e3 n3 => ⟨e3.keep _, q M3 r (e19.trans e3) (n3.old e19)⟩))
  · have hdo : doesF a L = eraseF L (atF a L.length) (atF a L.length + (a.n % 8 - 1)) (blankF (cellF a.d).attr (cellF a.d).label) := by unfold doesF; rw [if_neg (by omega), if_neg (by omega), if_neg (by omega), if_pos (by omega)]
    rw [hdo] at q
    exact step_add (by omega) (by omega) (LGetN.as (blankF (cellF a.d).attr (cellF a.d).label).val (by exact Nat.le_refl 14) rfl (erase_W k19 (h.ext e19) hL fun M3 r e3 n3 => ⟨e3.keep _, q M3 r (e19.trans e3) (n3.old e19)⟩))
  refine step_eql (wpIf.dec (fun w11 => ?_) (fun w11 => step_eql (wpIf.dec (fun w12 => ?_) (fun w12 => ?_))))
  · have hdo : doesF a L = markF L (atF a L.length) 769 (cellF a.d).label := by unfold doesF; rw [if_neg (by omega), if_neg (by omega), if_neg (by omega), if_neg (by omega), if_pos (by omega)]
    rw [hdo] at q
    refine drawmark_W (d := a.d) (freeze_ok _) fun M2' e2' => ⟨e2'.keepF _, LGet.mk (v := .int .u8 (cellF a.d).label) rfl ?_⟩
    have et := e19.trans (Ext.thaw e2')
    exact mark_W (et.ok hM) (h.ext et) hL fun M3 r e3 n3 => ⟨e3.keep _, q M3 r (et.trans e3) (n3.old et)⟩
  · have hdo : doesF a L = markF L (atF a L.length) 769 (cellF a.d).label := by unfold doesF; rw [if_neg (by omega), if_neg (by omega), if_neg (by omega), if_neg (by omega), if_pos (by omega)]
    rw [hdo] at q
    refine drawmark_W (d := a.d) (freeze_ok _) fun M2' e2' => ⟨e2'.keepF _, LGet.mk (v := .int .u8 (cellF a.d).label) rfl ?_⟩
    have et := e19.trans (Ext.thaw e2')
    exact mark_W (et.ok hM) (h.ext et) hL fun M3 r e3 n3 => ⟨e3.keep _, q M3 r (et.trans e3) (n3.old et)⟩
  refine step_eql (wpIf.dec (fun w13 => ?_) (fun w13 => step_eql (wpIf.dec (fun w14 => ?_) (fun w14 => ?_))))
  · have hdo : doesF a L = resizeF L (min ((L.length : Int) + (a.n % 8 - 1)) 40).toNat (blankF (cellF a.d).attr (cellF a.d).label) := by unfold doesF; rw [if_neg (by omega), if_neg (by omega), if_neg (by omega), if_neg (by omega), if_neg (by omega), if_pos (by omega)]
    rw [hdo] at q
    exact step_len (step_add (by omega) (by omega) (step_min (LGetN.as (blankF (cellF a.d).attr (cellF a.d).label).val (by exact Nat.le_refl 14) rfl (resize_W k19 (h.ext e19) hL (by omega) fun M3 r e3 n3 => ⟨e3.keep _, q M3 r (e19.trans e3) (n3.old e19)⟩))))
  · have hdo : doesF a L = L.map (Ce.raise (cellF a.d).label) := by unfold doesF; rw [if_neg (by omega), if_neg (by omega), if_neg (by omega), if_neg (by omega), if_neg (by omega), if_neg (by omega), if_pos (by omega)]
    rw [hdo] at q
    exact LGet.mk (v := .int .u8 (cellF a.d).label) rfl (raise_W k19 (h.ext e19) hL fun M3 r e3 n3 => ⟨e3.keep _, q M3 r (e19.trans e3) (n3.old e19)⟩)
  · have hdo : doesF a L = putF L (atF a L.length) (cellF a.d) a.wide := by unfold doesF; rw [if_neg (by omega), if_neg (by omega), if_neg (by omega), if_neg (by omega), if_neg (by omega), if_neg (by omega), if_neg (by omega)]
    rw [hdo] at q
    exact LGetN.as (cellF a.d).val (by exact Nat.le_refl 14) rfl (put_W k19 (h.ext e19) hL (by omega) fun M3 r e3 n3 => ⟨e3.keep _, q M3 r (e19.trans e3) (n3.old e19)⟩)
end
end Go.Proofs.Ytokmjepnohjmdaa.Run
