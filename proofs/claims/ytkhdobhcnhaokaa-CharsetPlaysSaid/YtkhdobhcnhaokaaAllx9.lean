/- Each theorem X.calls says: whenever the Lean function X.f answers r, the Go function of that name returns r, and what lay in memory stays as it was. Written by this session's own program (over the kit's printer, with texts of this session's own for some functions). -/
import Derived.Test.YtkhdobhcnhaokaaAllx0
import Derived.Test.YtkhdobhcnhaokaaAllx2
import Derived.Test.YtkhdobhcnhaokaaAllx4
import Derived.Test.YtkhdobhcnhaokaaAllx5
import Derived.Test.YtkhdobhcnhaokaaAllx8
namespace Go.Proofs.Ytkhdobhcnhaokaa.All
open Go.RowKit Go.Proofs.YtkhdobhcnhaokaaW.PrintWords Go.Proofs.YtkhdobhcnhaokaaW.PrintLast Go.Proofs.YtkhdobhcnhaokaaW.PrintMore
attribute [local go_sem] max2_int min2_int max_two min_two max_three min_three max_four min_four   -- for this text's walks alone
set_option linter.unusedVariables false
set_option linter.unusedSimpArgs false

attribute [local go_sem high] eqA37
/-! ### marqueelaw05_CharsetPlays: function 5 -/
mutual
def marqueelaw05_CharsetPlays.l0 : Nat → List (S42) → Int → Int → Int → Int → Int → Int → Int → Int → Int → Int → Int → Int → Int → Option (Bool)
  | 0, _, _, _, _, _, _, _, _, _, _, _, _, _, _ => none
  | k + 1, x0, x5, x302000, x302001, x302002, x302003, x302004, x302005, x303000, x303001, x303002, x303003, x303004, x303005 => if x5 < (x0.length : Int) then (marqueelaw05_CharsetPlays.j1 k x0 x5 (decide (x5 < 80)) x302000 x302001 x302002 x302003 x302004 x302005 x303000 x303001 x303002 x303003 x303004 x303005) else (marqueelaw05_CharsetPlays.j1 k x0 x5 false x302000 x302001 x302002 x302003 x302004 x302005 x303000 x303001 x303002 x303003 x303004 x303005)
def marqueelaw05_CharsetPlays.j1 : Nat → List (S42) → Int → Bool → Int → Int → Int → Int → Int → Int → Int → Int → Int → Int → Int → Int → Option (Bool)
  | 0, _, _, _, _, _, _, _, _, _, _, _, _, _, _, _ => none
  | k + 1, x0, x5, x20, x302000, x302001, x302002, x302003, x302004, x302005, x303000, x303001, x303002, x303003, x303004, x303005 => if x20 = true then (if 0 ≤ x5 then (if x5 < (x0.length : Int) then (if (Int.tmod ((rd_T42 x0 x5).f0) 8) = 0 then (marqueelaw05_CharsetPlays.j2 k x0 x5 true (Int.tmod ((rd_T42 x0 x5).f0) 8) ((Int.tmod ((rd_T42 x0 x5).f0) 8) == 0) x302000 x302001 x302002 x302003 x302004 x302005 x303000 x303001 x303002 x303003 x303004 x303005 ((rd_T42 x0 x5).f0) ((rd_T42 x0 x5).f1) ((rd_T42 x0 x5).f2) ((rd_T42 x0 x5).f3)) else (marqueelaw05_CharsetPlays.j2 k x0 x5 true (Int.tmod ((rd_T42 x0 x5).f0) 8) ((Int.tmod ((rd_T42 x0 x5).f0) 8) == 1) x302000 x302001 x302002 x302003 x302004 x302005 x303000 x303001 x303002 x303003 x303004 x303005 ((rd_T42 x0 x5).f0) ((rd_T42 x0 x5).f1) ((rd_T42 x0 x5).f2) ((rd_T42 x0 x5).f3))) else (none)) else (none)) else ((marqueelaw05_works.f k).bind fun t303 => (some t303))
def marqueelaw05_CharsetPlays.j3 : Nat → List (S42) → Int → Bool → Bool → Int → Int → Int → Int → Int → Int → Int → Int → Int → Int → Int → Int → Option (Bool)
  | 0, _, _, _, _, _, _, _, _, _, _, _, _, _, _, _, _ => none
  | k + 1, x0, x5, x7, x8, x302000, x302001, x302002, x302003, x302004, x302005, x303000, x303001, x303002, x303003, x303004, x303005 => if (x7 != x8) = true then (some false) else ((charset_Choice_Sets.f x302000 x302001 x302002 x302003 x302004 x302005).bind fun bt364 => (if (!(bt364.1 == x303000) || (!(bt364.2.1 == x303001) || (!(bt364.2.2.1 == x303002) || (!(bt364.2.2.2 == x303003))))) = true then (some false) else ((charset_Choice_Now.f x302000 x302001 x302002 x302003 x302004 x302005).bind fun t368 => ((marqueeref05_Choice_Now.f x303000 x303001 x303002 x303003 x303004 x303005).bind fun t369 => (if t368 = t369 then (marqueelaw05_CharsetPlays.l0 k x0 (wrap64 (x5 + 1)) x302000 x302001 x302002 x302003 x302004 x302005 x303000 x303001 x303002 x303003 x303004 x303005) else (some false))))))
def marqueelaw05_CharsetPlays.j2 : Nat → List (S42) → Int → Bool → Int → Bool → Int → Int → Int → Int → Int → Int → Int → Int → Int → Int → Int → Int → Int → Int → Int → Int → Option (Bool)
  | 0, _, _, _, _, _, _, _, _, _, _, _, _, _, _, _, _, _, _, _, _, _ => none
  | k + 1, x0, x5, x8, x29, x49, x302000, x302001, x302002, x302003, x302004, x302005, x303000, x303001, x303002, x303003, x303004, x303005, x306000, x306001, x306002, x306003 => if x49 = true then ((charset_Choice_Designate.f x302000 x302001 x302002 x302003 x302004 x302005 (wrap64 (x306001)) x306002).bind fun bt306 => ((marqueeref05_Choice_Designate.f x303000 x303001 x303002 x303003 x303004 x303005 (wrap64 (x306001)) x306002).bind fun bt313 => (marqueelaw05_CharsetPlays.j3 k x0 x5 bt306.2.2.2.2.2.2 bt313.2.2.2.2.2.2 bt306.1 bt306.2.1 bt306.2.2.1 bt306.2.2.2.1 bt306.2.2.2.2.1 bt306.2.2.2.2.2.1 bt313.1 bt313.2.1 bt313.2.2.1 bt313.2.2.2.1 bt313.2.2.2.2.1 bt313.2.2.2.2.2.1))) else (if x29 = 2 then ((charset_Choice_Lock.f x302000 x302001 x302002 x302003 x302004 x302005 x306002).bind fun bt320 => ((marqueeref05_Choice_Lock.f k x303000 x303001 x303002 x303003 x303004 x303005 x306002).bind fun bt327 => (marqueelaw05_CharsetPlays.j3 k x0 x5 bt320.2.2.2.2.2.2 bt327.2.2.2.2.2.2 bt320.1 bt320.2.1 bt320.2.2.1 bt320.2.2.2.1 bt320.2.2.2.2.1 bt320.2.2.2.2.2.1 bt327.1 bt327.2.1 bt327.2.2.1 bt327.2.2.2.1 bt327.2.2.2.2.1 bt327.2.2.2.2.2.1))) else (if x29 = 3 then ((charset_Choice_Single.f x302000 x302001 x302002 x302003 x302004 x302005 (wrap64 (x306001))).bind fun bt334 => ((marqueeref05_Choice_Single.f x303000 x303001 x303002 x303003 x303004 x303005 (wrap64 (x306001))).bind fun bt341 => (marqueelaw05_CharsetPlays.j3 k x0 x5 bt334.2.2.2.2.2.2 bt341.2.2.2.2.2.2 bt334.1 bt334.2.1 bt334.2.2.1 bt334.2.2.2.1 bt334.2.2.2.2.1 bt334.2.2.2.2.2.1 bt341.1 bt341.2.1 bt341.2.2.1 bt341.2.2.2.1 bt341.2.2.2.2.1 bt341.2.2.2.2.2.1))) else ((charset_Choice_Map.f k x302000 x302001 x302002 x302003 x302004 x302005 x306003).bind fun bt348 => ((marqueeref05_Choice_Map.f k x303000 x303001 x303002 x303003 x303004 x303005 x306003).bind fun bt356 => (marqueelaw05_CharsetPlays.j3 k x0 x5 (bt348.2.2.2.2.2.2 == bt356.2.2.2.2.2.2) x8 bt348.1 bt348.2.1 bt348.2.2.1 bt348.2.2.2.1 bt348.2.2.2.2.1 bt348.2.2.2.2.2.1 bt356.1 bt356.2.1 bt356.2.2.1 bt356.2.2.2.1 bt356.2.2.2.2.1 bt356.2.2.2.2.2.1)))))
end
def marqueelaw05_CharsetPlays.f (k : Nat) (l0 : List (S42)) : Option (Bool) := marqueelaw05_CharsetPlays.l0 k l0 0 0 0 0 0 0 0 0 0 0 0 0 0
theorem marqueelaw05_CharsetPlays.mono_l : ∀ k, (∀ y0 y1 y2 y3 y4 y5 y6 y7 y8 y9 y10 y11 y12 y13, LeO (marqueelaw05_CharsetPlays.l0 k y0 y1 y2 y3 y4 y5 y6 y7 y8 y9 y10 y11 y12 y13) (marqueelaw05_CharsetPlays.l0 (k + 1) y0 y1 y2 y3 y4 y5 y6 y7 y8 y9 y10 y11 y12 y13)) ∧ (∀ y0 y1 y2 y3 y4 y5 y6 y7 y8 y9 y10 y11 y12 y13 y14, LeO (marqueelaw05_CharsetPlays.j1 k y0 y1 y2 y3 y4 y5 y6 y7 y8 y9 y10 y11 y12 y13 y14) (marqueelaw05_CharsetPlays.j1 (k + 1) y0 y1 y2 y3 y4 y5 y6 y7 y8 y9 y10 y11 y12 y13 y14)) ∧ (∀ y0 y1 y2 y3 y4 y5 y6 y7 y8 y9 y10 y11 y12 y13 y14 y15, LeO (marqueelaw05_CharsetPlays.j3 k y0 y1 y2 y3 y4 y5 y6 y7 y8 y9 y10 y11 y12 y13 y14 y15) (marqueelaw05_CharsetPlays.j3 (k + 1) y0 y1 y2 y3 y4 y5 y6 y7 y8 y9 y10 y11 y12 y13 y14 y15)) ∧ (∀ y0 y1 y2 y3 y4 y5 y6 y7 y8 y9 y10 y11 y12 y13 y14 y15 y16 y17 y18 y19 y20, LeO (marqueelaw05_CharsetPlays.j2 k y0 y1 y2 y3 y4 y5 y6 y7 y8 y9 y10 y11 y12 y13 y14 y15 y16 y17 y18 y19 y20) (marqueelaw05_CharsetPlays.j2 (k + 1) y0 y1 y2 y3 y4 y5 y6 y7 y8 y9 y10 y11 y12 y13 y14 y15 y16 y17 y18 y19 y20))
  | 0 => ⟨fun _ _ _ _ _ _ _ _ _ _ _ _ _ _ r h => by simp [marqueelaw05_CharsetPlays.l0] at h, fun _ _ _ _ _ _ _ _ _ _ _ _ _ _ _ r h => by simp [marqueelaw05_CharsetPlays.j1] at h, fun _ _ _ _ _ _ _ _ _ _ _ _ _ _ _ _ r h => by simp [marqueelaw05_CharsetPlays.j3] at h, fun _ _ _ _ _ _ _ _ _ _ _ _ _ _ _ _ _ _ _ _ _ r h => by simp [marqueelaw05_CharsetPlays.j2] at h⟩
  | k + 1 => by
    obtain ⟨ih0, ih1, ih2, ih3⟩ := marqueelaw05_CharsetPlays.mono_l k
    refine ⟨?_, ?_, ?_, ?_⟩
    · intro y0 y1 y2 y3 y4 y5 y6 y7 y8 y9 y10 y11 y12 y13
      unfold marqueelaw05_CharsetPlays.l0
      repeat' first
      | (with_reducible exact ih0 _ _ _ _ _ _ _ _ _ _ _ _ _ _)
      | (with_reducible exact ih1 _ _ _ _ _ _ _ _ _ _ _ _ _ _ _)
      | (with_reducible exact ih2 _ _ _ _ _ _ _ _ _ _ _ _ _ _ _ _)
      | (with_reducible exact ih3 _ _ _ _ _ _ _ _ _ _ _ _ _ _ _ _ _ _ _ _ _)
      | (with_reducible exact charset_Choice_Map.mono _ _ _ _ _ _ _ _)
      | (with_reducible exact marqueelaw05_works.mono _)
      | (with_reducible exact marqueeref05_Choice_Lock.mono _ _ _ _ _ _ _ _)
      | (with_reducible exact marqueeref05_Choice_Map.mono _ _ _ _ _ _ _ _)
      | (with_reducible exact LeO.refl _)
      | (with_reducible exact LeO.none _)
      | (with_reducible refine LeO.ite ?_ ?_)
      | (with_reducible refine LeO.bind ?_ (fun _ => ?_))
      | exact ih0 _ _ _ _ _ _ _ _ _ _ _ _ _ _
      | exact ih1 _ _ _ _ _ _ _ _ _ _ _ _ _ _ _
      | exact ih2 _ _ _ _ _ _ _ _ _ _ _ _ _ _ _ _
      | exact ih3 _ _ _ _ _ _ _ _ _ _ _ _ _ _ _ _ _ _ _ _ _
      | exact charset_Choice_Map.mono _ _ _ _ _ _ _ _
      | exact marqueelaw05_works.mono _
      | exact marqueeref05_Choice_Lock.mono _ _ _ _ _ _ _ _
      | exact marqueeref05_Choice_Map.mono _ _ _ _ _ _ _ _
      | exact LeO.none _
      | refine LeO.ite ?_ ?_
      | refine LeO.bind ?_ (fun _ => ?_)
    · intro y0 y1 y2 y3 y4 y5 y6 y7 y8 y9 y10 y11 y12 y13 y14
      unfold marqueelaw05_CharsetPlays.j1
      repeat' first
      | (with_reducible exact ih0 _ _ _ _ _ _ _ _ _ _ _ _ _ _)
      | (with_reducible exact ih1 _ _ _ _ _ _ _ _ _ _ _ _ _ _ _)
      | (with_reducible exact ih2 _ _ _ _ _ _ _ _ _ _ _ _ _ _ _ _)
      | (with_reducible exact ih3 _ _ _ _ _ _ _ _ _ _ _ _ _ _ _ _ _ _ _ _ _)
      | (with_reducible exact charset_Choice_Map.mono _ _ _ _ _ _ _ _)
      | (with_reducible exact marqueelaw05_works.mono _)
      | (with_reducible exact marqueeref05_Choice_Lock.mono _ _ _ _ _ _ _ _)
      | (with_reducible exact marqueeref05_Choice_Map.mono _ _ _ _ _ _ _ _)
      | (with_reducible exact LeO.refl _)
      | (with_reducible exact LeO.none _)
      | (with_reducible refine LeO.ite ?_ ?_)
      | (with_reducible refine LeO.bind ?_ (fun _ => ?_))
      | exact ih0 _ _ _ _ _ _ _ _ _ _ _ _ _ _
      | exact ih1 _ _ _ _ _ _ _ _ _ _ _ _ _ _ _
      | exact ih2 _ _ _ _ _ _ _ _ _ _ _ _ _ _ _ _
      | exact ih3 _ _ _ _ _ _ _ _ _ _ _ _ _ _ _ _ _ _ _ _ _
      | exact charset_Choice_Map.mono _ _ _ _ _ _ _ _
      | exact marqueelaw05_works.mono _
      | exact marqueeref05_Choice_Lock.mono _ _ _ _ _ _ _ _
      | exact marqueeref05_Choice_Map.mono _ _ _ _ _ _ _ _
      | exact LeO.none _
      | refine LeO.ite ?_ ?_
      | refine LeO.bind ?_ (fun _ => ?_)
    · intro y0 y1 y2 y3 y4 y5 y6 y7 y8 y9 y10 y11 y12 y13 y14 y15
      unfold marqueelaw05_CharsetPlays.j3
      repeat' first
      | (with_reducible exact ih0 _ _ _ _ _ _ _ _ _ _ _ _ _ _)
      | (with_reducible exact ih1 _ _ _ _ _ _ _ _ _ _ _ _ _ _ _)
      | (with_reducible exact ih2 _ _ _ _ _ _ _ _ _ _ _ _ _ _ _ _)
      | (with_reducible exact ih3 _ _ _ _ _ _ _ _ _ _ _ _ _ _ _ _ _ _ _ _ _)
      | (with_reducible exact charset_Choice_Map.mono _ _ _ _ _ _ _ _)
      | (with_reducible exact marqueelaw05_works.mono _)
      | (with_reducible exact marqueeref05_Choice_Lock.mono _ _ _ _ _ _ _ _)
      | (with_reducible exact marqueeref05_Choice_Map.mono _ _ _ _ _ _ _ _)
      | (with_reducible exact LeO.refl _)
      | (with_reducible exact LeO.none _)
      | (with_reducible refine LeO.ite ?_ ?_)
      | (with_reducible refine LeO.bind ?_ (fun _ => ?_))
      | exact ih0 _ _ _ _ _ _ _ _ _ _ _ _ _ _
      | exact ih1 _ _ _ _ _ _ _ _ _ _ _ _ _ _ _
      | exact ih2 _ _ _ _ _ _ _ _ _ _ _ _ _ _ _ _
      | exact ih3 _ _ _ _ _ _ _ _ _ _ _ _ _ _ _ _ _ _ _ _ _
      | exact charset_Choice_Map.mono _ _ _ _ _ _ _ _
      | exact marqueelaw05_works.mono _
      | exact marqueeref05_Choice_Lock.mono _ _ _ _ _ _ _ _
      | exact marqueeref05_Choice_Map.mono _ _ _ _ _ _ _ _
      | exact LeO.none _
      | refine LeO.ite ?_ ?_
      | refine LeO.bind ?_ (fun _ => ?_)
    · intro y0 y1 y2 y3 y4 y5 y6 y7 y8 y9 y10 y11 y12 y13 y14 y15 y16 y17 y18 y19 y20
      unfold marqueelaw05_CharsetPlays.j2
      repeat' first
      | (with_reducible exact ih0 _ _ _ _ _ _ _ _ _ _ _ _ _ _)
      | (with_reducible exact ih1 _ _ _ _ _ _ _ _ _ _ _ _ _ _ _)
      | (with_reducible exact ih2 _ _ _ _ _ _ _ _ _ _ _ _ _ _ _ _)
      | (with_reducible exact ih3 _ _ _ _ _ _ _ _ _ _ _ _ _ _ _ _ _ _ _ _ _)
      | (with_reducible exact charset_Choice_Map.mono _ _ _ _ _ _ _ _)
      | (with_reducible exact marqueelaw05_works.mono _)
      | (with_reducible exact marqueeref05_Choice_Lock.mono _ _ _ _ _ _ _ _)
      | (with_reducible exact marqueeref05_Choice_Map.mono _ _ _ _ _ _ _ _)
      | (with_reducible exact LeO.refl _)
      | (with_reducible exact LeO.none _)
      | (with_reducible refine LeO.ite ?_ ?_)
      | (with_reducible refine LeO.bind ?_ (fun _ => ?_))
      | exact ih0 _ _ _ _ _ _ _ _ _ _ _ _ _ _
      | exact ih1 _ _ _ _ _ _ _ _ _ _ _ _ _ _ _
      | exact ih2 _ _ _ _ _ _ _ _ _ _ _ _ _ _ _ _
      | exact ih3 _ _ _ _ _ _ _ _ _ _ _ _ _ _ _ _ _ _ _ _ _
      | exact charset_Choice_Map.mono _ _ _ _ _ _ _ _
      | exact marqueelaw05_works.mono _
      | exact marqueeref05_Choice_Lock.mono _ _ _ _ _ _ _ _
      | exact marqueeref05_Choice_Map.mono _ _ _ _ _ _ _ _
      | exact LeO.none _
      | refine LeO.ite ?_ ?_
      | refine LeO.bind ?_ (fun _ => ?_)
theorem marqueelaw05_CharsetPlays.mono : ∀ a0 k, LeO (marqueelaw05_CharsetPlays.f k a0) (marqueelaw05_CharsetPlays.f (k + 1) a0) := by
  intro a0 k
  obtain ⟨ih0, ih1, ih2, ih3⟩ := marqueelaw05_CharsetPlays.mono_l k
  unfold marqueelaw05_CharsetPlays.f
  repeat' first
      | (with_reducible exact ih0 _ _ _ _ _ _ _ _ _ _ _ _ _ _)
      | (with_reducible exact ih1 _ _ _ _ _ _ _ _ _ _ _ _ _ _ _)
      | (with_reducible exact ih2 _ _ _ _ _ _ _ _ _ _ _ _ _ _ _ _)
      | (with_reducible exact ih3 _ _ _ _ _ _ _ _ _ _ _ _ _ _ _ _ _ _ _ _ _)
      | (with_reducible exact charset_Choice_Map.mono _ _ _ _ _ _ _ _)
      | (with_reducible exact marqueelaw05_works.mono _)
      | (with_reducible exact marqueeref05_Choice_Lock.mono _ _ _ _ _ _ _ _)
      | (with_reducible exact marqueeref05_Choice_Map.mono _ _ _ _ _ _ _ _)
      | (with_reducible exact LeO.refl _)
      | (with_reducible exact LeO.none _)
      | (with_reducible refine LeO.ite ?_ ?_)
      | (with_reducible refine LeO.bind ?_ (fun _ => ?_))
      | exact ih0 _ _ _ _ _ _ _ _ _ _ _ _ _ _
      | exact ih1 _ _ _ _ _ _ _ _ _ _ _ _ _ _ _
      | exact ih2 _ _ _ _ _ _ _ _ _ _ _ _ _ _ _ _
      | exact ih3 _ _ _ _ _ _ _ _ _ _ _ _ _ _ _ _ _ _ _ _ _
      | exact charset_Choice_Map.mono _ _ _ _ _ _ _ _
      | exact marqueelaw05_works.mono _
      | exact marqueeref05_Choice_Lock.mono _ _ _ _ _ _ _ _
      | exact marqueeref05_Choice_Map.mono _ _ _ _ _ _ _ _
      | exact LeO.none _
      | refine LeO.ite ?_ ?_
      | refine LeO.bind ?_ (fun _ => ?_)
def marqueelaw05_CharsetPlays.T24 : Bool × List (List Nat × List Nat) := (true, [([], []), ([], []), ([0, 1], [0, 1]), ([2], [2]), ([3], [3]), ([4, 3, 3], [3, 4]), ([3], [3]), ([6, 3], [3, 6]), ([5, 7, 3], [3, 5, 7]), ([3, 8], [3, 8]), ([9, 5], [9]), ([10], [10]), ([11, 10, 10], [10, 11]), ([10], [10]), ([13, 12, 10], [10, 13]), ([12, 14, 10], [10, 12, 14]), ([10, 15], [10, 15])])
def marqueelaw05_CharsetPlays.B24 : List Nat := [0, 0, 3, 7, 15, 31, 15, 79, 255, 511, 1023, 2047, 4095, 2047, 16383, 32767, 65535]
theorem marqueelaw05_CharsetPlays.tab24 : rtab .any (opsOf Try.f5 24) = marqueelaw05_CharsetPlays.T24 := by kernel_rfl
theorem marqueelaw05_CharsetPlays.bits24 : waitsOk marqueelaw05_CharsetPlays.T24.2 marqueelaw05_CharsetPlays.B24 = true := by kernel_rfl
set_option maxHeartbeats 8000000 in
set_option maxRecDepth 100000 in
theorem marqueelaw05_CharsetPlays.calls (k : Nat) (A0 : Option Addr) (c0 : Nat) (l0 : List (S42)) (r : Bool) (w : World) (hr0 : Kd.C k42 w A0 l0.length l0) (hc0 : l0.length ≤ c0) (h : marqueelaw05_CharsetPlays.f k l0 = some r) (hT_ : r = true) :
    Calls Try.prog 5 #[.slice A0 l0.length c0] w fun e w' => e = .returned (.bool r) ∧ Below w.heap.size w w' := by
  have hu32 := Try.underlying32
  have hu39 := Try.underlying39
  have hu42 := Try.underlying42
  have hu37 := Try.underlying37
  have HR0 := Aside0.mk hr0
  have HC0 := Aside0.mk hc0
  clear hr0 hc0
  have HB := Aside0.mk (Below.refl w.heap.size w)
  have H : (marqueelaw05_CharsetPlays.l0 k l0 0 0 0 0 0 0 0 0 0 0 0 0 0) = some r := h
  clear h
  have H' := Aside0.mk H
  clear H
  go_enter Try.func5, Try.ntmps5
  go_wp2_with (first | ((with_reducible refine gate_dst (N := 3) rfl ?_); refine box_event ?hg (N := 3) ?hd (cs := #[.int .u8 0, .int .u8 0, .int .u8 0, .int .u8 0, .int .u8 0, .int .u8 0]) (t := 32) ?hr ?_; (case hd => rfl); (case hg => rfl); (case hr => first | (go_simp; done) | (go_simp; rfl)); intro gb301 hg w2 hbox hb; have n0_ := Aside0.mk (below_step (by repeat (first | (with_reducible first | exact HB.out | apply below_alloc | apply pw_below_drewN | apply below_drew1) | exact HB.out)) hb); have n1_ := Aside0.mk (hbox); have n2_ := Aside0.mk ((by rw [hg]; exact (below_size (by repeat (first | (with_reducible first | exact HB.out | apply below_alloc | apply pw_below_drewN | apply below_drew1) | exact HB.out))) : w.heap.size ≤ gb301)); have n3_ := Aside0.mk ((by rw [hg]; exact (below_size (by repeat (first | (with_reducible first | exact HB.out | apply below_alloc | apply pw_below_drewN | apply below_drew1) | exact HB.out))) : w.heap.size ≤ gb301)); clear HB; have HB := n0_; have BK301 := n1_; have GW301 := n2_; have GE301 := n3_; clear n0_ n1_ n2_ n3_; clear hb hbox hg) | ((with_reducible refine gate_dst (N := 4) rfl ?_); refine box_event ?hg (N := 4) ?hd (cs := #[.int .i64 0, .int .i64 0, .int .i64 0, .int .i64 0, .int .i64 0, .int .i64 0]) (t := 39) ?hr ?_; (case hd => rfl); (case hg => rfl); (case hr => first | (go_simp; done) | (go_simp; rfl)); intro gb302 hg w3 hbox hb; have n0_ := Aside0.mk (blk_below (g := gb301) (o := .cells #[.int .u8 0, .int .u8 0, .int .u8 0, .int .u8 0, .int .u8 0, .int .u8 0] 32 (0, 0)) (by (with_reducible repeat (first | refine blk_drewN ?_ _ | refine blk_drew ?_ | refine blk_alloc ?_ _)); exact BK301.out) hb); have n1_ := Aside0.mk (below_step (by repeat (first | (with_reducible first | exact HB.out | apply below_alloc | apply pw_below_drewN | apply below_drew1 | refine below_set ?_ GE301.out) | exact HB.out)) hb); have n2_ := Aside0.mk (hbox); have n3_ := Aside0.mk ((by rw [hg]; exact (below_size (by repeat (first | (with_reducible first | exact HB.out | apply below_alloc | apply pw_below_drewN | apply below_drew1 | refine below_set ?_ GE301.out) | exact HB.out))) : w.heap.size ≤ gb302)); have n4_ := Aside0.mk ((by rw [hg]; exact (below_size (by repeat (first | (with_reducible first | exact HB.out | apply below_alloc | apply pw_below_drewN | apply below_drew1 | refine below_set ?_ GE301.out) | exact HB.out))) : w.heap.size ≤ gb302)); have n5_ := Aside0.mk ((by rw [hg]; exact Nat.ne_of_lt (blk_lt (g := gb301) (o := .cells #[.int .u8 0, .int .u8 0, .int .u8 0, .int .u8 0, .int .u8 0, .int .u8 0] 32 (0, 0)) (by (with_reducible repeat (first | refine blk_drewN ?_ _ | refine blk_drew ?_ | refine blk_alloc ?_ _)); exact BK301.out)) : gb301 ≠ gb302)); have n6_ := Aside0.mk ((by rw [hg]; exact Nat.ne_of_gt (blk_lt (g := gb301) (o := .cells #[.int .u8 0, .int .u8 0, .int .u8 0, .int .u8 0, .int .u8 0, .int .u8 0] 32 (0, 0)) (by (with_reducible repeat (first | refine blk_drewN ?_ _ | refine blk_drew ?_ | refine blk_alloc ?_ _)); exact BK301.out)) : gb302 ≠ gb301)); clear BK301; clear HB; have BK301 := n0_; have HB := n1_; have BK302 := n2_; have GW302 := n3_; have GE302 := n4_; have NB301_302 := n5_; have NB302_301 := n6_; clear n0_ n1_ n2_ n3_ n4_ n5_ n6_; clear hb hbox hg))
  go_loopg [5] k (fun kq v5 w' => ∃ (x5_1 : Int) (x302000_1 : Int) (x302001_1 : Int) (x302002_1 : Int) (x302003_1 : Int) (x302004_1 : Int) (x302005_1 : Int) (x303000_1 : Int) (x303001_1 : Int) (x303002_1 : Int) (x303003_1 : Int) (x303004_1 : Int) (x303005_1 : Int), v5 = .int .i64 x5_1 ∧ Aside0 (marqueelaw05_CharsetPlays.l0 kq l0 x5_1 x302000_1 x302001_1 x302002_1 x302003_1 x302004_1 x302005_1 x303000_1 x303001_1 x303002_1 x303003_1 x303004_1 x303005_1 = some r) ∧ Aside0 (kq ≤ k) ∧ Aside0 (w'.heap[gb301]? = some (.cells #[.int .u8 x302000_1, .int .u8 x302001_1, .int .u8 x302002_1, .int .u8 x302003_1, .int .u8 x302004_1, .int .u8 x302005_1] 32 (0, 0))) ∧ Aside0 (w'.heap[gb302]? = some (.cells #[.int .i64 x303000_1, .int .i64 x303001_1, .int .i64 x303002_1, .int .i64 x303003_1, .int .i64 x303004_1, .int .i64 x303005_1] 39 (0, 0))) ∧ Aside0 (Below w.heap.size w w'))
  case atStart => exact ⟨(0), (0), (0), (0), (0), (0), (0), (0), (0), (0), (0), (0), (0), (by first | rfl | (simp; done) | (simp [*]; done)), H', ⟨Nat.le_refl _⟩, ⟨by (with_reducible repeat (first | refine blk_drewN ?_ _ | refine blk_drew ?_ | refine blk_alloc ?_ _)); exact BK301.out⟩, ⟨by (with_reducible repeat (first | refine blk_drewN ?_ _ | refine blk_drew ?_ | refine blk_alloc ?_ _)); exact BK302.out⟩, ⟨by repeat (first | (with_reducible first | exact HB.out | apply below_alloc | apply pw_below_drewN | apply below_drew1 | refine below_set ?_ GE301.out | refine below_set ?_ GE302.out) | exact HB.out)⟩⟩
  case round =>
    clear H'
    try clear p2
    obtain ⟨x5_1, x302000_1, x302001_1, x302002_1, x302003_1, x302004_1, x302005_1, x303000_1, x303001_1, x303002_1, x303003_1, x303004_1, x303005_1, rfl, HA, HK1, BK301, BK302, HB⟩ := hrel
    cases gk with
    | zero => exact absurd HA.out (by simp [marqueelaw05_CharsetPlays.l0])
    | succ k1 =>
      have H := HA.out
      clear HA
      simp only [marqueelaw05_CharsetPlays.l0] at H
      have HC4 := Aside0.mk H
      clear H
      go_upto_region 4 with (fail)
      go_cut [20] (fun v20 wc => ∃ (kq : Nat) (x20_3 : Bool), v20 = .bool x20_3 ∧ Aside0 (marqueelaw05_CharsetPlays.j1 kq l0 x5_1 x20_3 x302000_1 x302001_1 x302002_1 x302003_1 x302004_1 x302005_1 x303000_1 x303001_1 x303002_1 x303003_1 x303004_1 x303005_1 = some r) ∧ Aside0 (kq ≤ k1) ∧ Aside0 (wc.heap[gb301]? = some (.cells #[.int .u8 x302000_1, .int .u8 x302001_1, .int .u8 x302002_1, .int .u8 x302003_1, .int .u8 x302004_1, .int .u8 x302005_1] 32 (0, 0))) ∧ Aside0 (wc.heap[gb302]? = some (.cells #[.int .i64 x303000_1, .int .i64 x303001_1, .int .i64 x303002_1, .int .i64 x303003_1, .int .i64 x303004_1, .int .i64 x303005_1] 39 (0, 0))) ∧ Aside0 (Below w.heap.size w wc))
      case first =>
        have H := HC4.out
        clear HC4
        by_cases c5 : x5_1 < (l0.length : Int)
        · rw [if_pos c5] at H
          have c5b0 : decide (x5_1 < (l0.length : Int)) = true := decide_eq_true c5
          clear c5
          (first | rw [c5b0] | (simp only [i64_w, i32_w]; rw [c5b0]) | skip)
          have H' := Aside0.mk H
          clear H
          go_wp2
          go_meet
          case rel => exact ⟨_, (decide (x5_1 < 80)), (by first | rfl | (simp; done) | (simp [*]; done)), H', ⟨by have := HK1.out; first | omega | exact Nat.le_refl _⟩, ⟨by (with_reducible repeat (first | refine blk_drewN ?_ _ | refine blk_drew ?_ | refine blk_alloc ?_ _)); exact BK301.out⟩, ⟨by (with_reducible repeat (first | refine blk_drewN ?_ _ | refine blk_drew ?_ | refine blk_alloc ?_ _)); exact BK302.out⟩, ⟨by repeat (first | (with_reducible first | exact HB.out | apply below_alloc | apply pw_below_drewN | apply below_drew1 | refine below_set ?_ GE301.out | refine below_set ?_ GE302.out) | exact HB.out)⟩⟩
        · rw [if_neg c5] at H
          have c5b0 : decide (x5_1 < (l0.length : Int)) = false := decide_eq_false c5
          clear c5
          (first | rw [c5b0] | (simp only [i64_w, i32_w]; rw [c5b0]) | skip)
          have H' := Aside0.mk H
          clear H
          go_wp2
          go_meet
          case rel => exact ⟨_, (false), (by first | rfl | (simp; done) | (simp [*]; done)), H', ⟨by have := HK1.out; first | omega | exact Nat.le_refl _⟩, ⟨by (with_reducible repeat (first | refine blk_drewN ?_ _ | refine blk_drew ?_ | refine blk_alloc ?_ _)); exact BK301.out⟩, ⟨by (with_reducible repeat (first | refine blk_drewN ?_ _ | refine blk_drew ?_ | refine blk_alloc ?_ _)); exact BK302.out⟩, ⟨by repeat (first | (with_reducible first | exact HB.out | apply below_alloc | apply pw_below_drewN | apply below_drew1 | refine below_set ?_ GE301.out | refine below_set ?_ GE302.out) | exact HB.out)⟩⟩
      case rest =>
        clear HC4
        try clear p2
        try clear c5
        try clear c5b0
        try clear p2
        obtain ⟨kq, x20_3, rfl, HA, HJ3, BK301, BK302, HB⟩ := hcut
        cases kq with
        | zero => exact absurd HA.out (by simp [marqueelaw05_CharsetPlays.j1])
        | succ kj3 =>
          have H := HA.out
          clear HA
          simp only [marqueelaw05_CharsetPlays.j1] at H
          by_cases c6 : x20_3 = true
          · subst c6
            have H1 : (if 0 ≤ x5_1 then (if x5_1 < (l0.length : Int) then (if (Int.tmod ((rd_T42 l0 x5_1).f0) 8) = 0 then (marqueelaw05_CharsetPlays.j2 kj3 l0 x5_1 true (Int.tmod ((rd_T42 l0 x5_1).f0) 8) ((Int.tmod ((rd_T42 l0 x5_1).f0) 8) == 0) x302000_1 x302001_1 x302002_1 x302003_1 x302004_1 x302005_1 x303000_1 x303001_1 x303002_1 x303003_1 x303004_1 x303005_1 ((rd_T42 l0 x5_1).f0) ((rd_T42 l0 x5_1).f1) ((rd_T42 l0 x5_1).f2) ((rd_T42 l0 x5_1).f3)) else (marqueelaw05_CharsetPlays.j2 kj3 l0 x5_1 true (Int.tmod ((rd_T42 l0 x5_1).f0) 8) ((Int.tmod ((rd_T42 l0 x5_1).f0) 8) == 1) x302000_1 x302001_1 x302002_1 x302003_1 x302004_1 x302005_1 x303000_1 x303001_1 x303002_1 x303003_1 x303004_1 x303005_1 ((rd_T42 l0 x5_1).f0) ((rd_T42 l0 x5_1).f1) ((rd_T42 l0 x5_1).f2) ((rd_T42 l0 x5_1).f3))) else (none)) else (none)) = some r := by rw [if_pos rfl] at H; exact H
            clear H
            have H := H1
            clear H1
            by_cases c7 : 0 ≤ x5_1
            · rw [if_pos c7] at H
              have c7b0 : decide (0 ≤ x5_1) = true := decide_eq_true c7
              clear c7
              by_cases c8 : x5_1 < (l0.length : Int)
              · rw [if_pos c8] at H
                have c8b0 : decide (x5_1 < (l0.length : Int)) = true := decide_eq_true c8
                clear c8
                have HC9 := Aside0.mk H
                clear H
                have p304 : 0 ≤ (x5_1 : Int) := of_decide_eq_true (by first | (with_reducible assumption) | assumption)
                have q304 : x5_1 < (l0.length : Int) := of_decide_eq_true (by first | (with_reducible assumption) | assumption)
                obtain ⟨ad304, e304, hx304_0, hx304_1, hx304_2, hx304_3⟩ := at_T42 HR0.out x5_1 p304 q304
                cases e304
                replace hx304_0 := (HB.out.cell (World.block_lt_of_cell? w _ hx304_0)).trans hx304_0
                replace hx304_1 := (HB.out.cell (World.block_lt_of_cell? w _ hx304_1)).trans hx304_1
                replace hx304_2 := (HB.out.cell (World.block_lt_of_cell? w _ hx304_2)).trans hx304_2
                replace hx304_3 := (HB.out.cell (World.block_lt_of_cell? w _ hx304_3)).trans hx304_3
                replace p304 := eq_true p304
                replace q304 := eq_true q304
                go_upto_block 2 with (first | ((with_reducible refine gate_dst (N := 6) rfl ?_); refine box_event ?hg (N := 6) ?hd (cs := #[.int .u8 0, .int .i8 0, .int .u8 0, .int .i32 0]) (t := 42) ?hr ?_; (case hd => rfl); (case hg => rfl); (case hr => first | (go_simp; done) | (go_simp; rfl)); intro gb305 hg w10 hbox hb; have n0_ := Aside0.mk (blk_below (g := gb301) (o := .cells #[.int .u8 x302000_1, .int .u8 x302001_1, .int .u8 x302002_1, .int .u8 x302003_1, .int .u8 x302004_1, .int .u8 x302005_1] 32 (0, 0)) (by (with_reducible repeat (first | refine blk_drewN ?_ _ | refine blk_drew ?_ | refine blk_alloc ?_ _)); exact BK301.out) hb); have n1_ := Aside0.mk (blk_below (g := gb302) (o := .cells #[.int .i64 x303000_1, .int .i64 x303001_1, .int .i64 x303002_1, .int .i64 x303003_1, .int .i64 x303004_1, .int .i64 x303005_1] 39 (0, 0)) (by (with_reducible repeat (first | refine blk_drewN ?_ _ | refine blk_drew ?_ | refine blk_alloc ?_ _)); exact BK302.out) hb); have n2_ := Aside0.mk (below_step (by repeat (first | (with_reducible first | exact HB.out | apply below_alloc | apply pw_below_drewN | apply below_drew1 | refine below_set ?_ GE301.out | refine below_set ?_ GE302.out) | exact HB.out)) hb); have n3_ := Aside0.mk (hbox); have n4_ := Aside0.mk ((by rw [hg]; exact (below_size (by repeat (first | (with_reducible first | exact HB.out | apply below_alloc | apply pw_below_drewN | apply below_drew1 | refine below_set ?_ GE301.out | refine below_set ?_ GE302.out) | exact HB.out))) : w.heap.size ≤ gb305)); have n5_ := Aside0.mk ((by rw [hg]; exact (below_size (by repeat (first | (with_reducible first | exact HB.out | apply below_alloc | apply pw_below_drewN | apply below_drew1 | refine below_set ?_ GE301.out | refine below_set ?_ GE302.out) | exact HB.out))) : w.heap.size ≤ gb305)); have n6_ := Aside0.mk ((by rw [hg]; exact Nat.ne_of_lt (blk_lt (g := gb301) (o := .cells #[.int .u8 x302000_1, .int .u8 x302001_1, .int .u8 x302002_1, .int .u8 x302003_1, .int .u8 x302004_1, .int .u8 x302005_1] 32 (0, 0)) (by (with_reducible repeat (first | refine blk_drewN ?_ _ | refine blk_drew ?_ | refine blk_alloc ?_ _)); exact BK301.out)) : gb301 ≠ gb305)); have n7_ := Aside0.mk ((by rw [hg]; exact Nat.ne_of_gt (blk_lt (g := gb301) (o := .cells #[.int .u8 x302000_1, .int .u8 x302001_1, .int .u8 x302002_1, .int .u8 x302003_1, .int .u8 x302004_1, .int .u8 x302005_1] 32 (0, 0)) (by (with_reducible repeat (first | refine blk_drewN ?_ _ | refine blk_drew ?_ | refine blk_alloc ?_ _)); exact BK301.out)) : gb305 ≠ gb301)); have n8_ := Aside0.mk ((by rw [hg]; exact Nat.ne_of_lt (blk_lt (g := gb302) (o := .cells #[.int .i64 x303000_1, .int .i64 x303001_1, .int .i64 x303002_1, .int .i64 x303003_1, .int .i64 x303004_1, .int .i64 x303005_1] 39 (0, 0)) (by (with_reducible repeat (first | refine blk_drewN ?_ _ | refine blk_drew ?_ | refine blk_alloc ?_ _)); exact BK302.out)) : gb302 ≠ gb305)); have n9_ := Aside0.mk ((by rw [hg]; exact Nat.ne_of_gt (blk_lt (g := gb302) (o := .cells #[.int .i64 x303000_1, .int .i64 x303001_1, .int .i64 x303002_1, .int .i64 x303003_1, .int .i64 x303004_1, .int .i64 x303005_1] 39 (0, 0)) (by (with_reducible repeat (first | refine blk_drewN ?_ _ | refine blk_drew ?_ | refine blk_alloc ?_ _)); exact BK302.out)) : gb305 ≠ gb302)); clear BK301; clear BK302; clear HB; have BK301 := n0_; have BK302 := n1_; have HB := n2_; have BK305 := n3_; have GW305 := n4_; have GE305 := n5_; have NB301_305 := n6_; have NB305_301 := n7_; have NB302_305 := n8_; have NB305_302 := n9_; clear n0_ n1_ n2_ n3_ n4_ n5_ n6_ n7_ n8_ n9_; clear hb hbox hg; have hnb11 := NB305_301.out; have hnc11 := NB301_305.out; have hnb12 := NB305_302.out; have hnc12 := NB302_305.out; have hcz13_0 : w10.cell? ⟨gb305, 0, none⟩ = some (.int .u8 0) := (blk_cell BK305.out 0).trans rfl; have hcz13_1 : w10.cell? ⟨gb305, 1, none⟩ = some (.int .i8 0) := (blk_cell BK305.out 1).trans rfl; have hcz13_2 : w10.cell? ⟨gb305, 2, none⟩ = some (.int .u8 0) := (blk_cell BK305.out 2).trans rfl; have hcz13_3 : w10.cell? ⟨gb305, 3, none⟩ = some (.int .i32 0) := (blk_cell BK305.out 3).trans rfl; have hfz13_0 := blk_frozen BK305.out 0; have hfz13_1 := blk_frozen BK305.out 1; have hfz13_2 := blk_frozen BK305.out 2; have hfz13_3 := blk_frozen BK305.out 3))
                (try simp only [Act.put, List.setIfInBounds_toArray, List.set_cons_zero, List.set_cons_succ])
                go_cut [7, 8] (fun v7 v8 wc => ∃ (kq : Nat) (x7_8 : Bool) (x8_8 : Bool) (x302000_8 : Int) (x302001_8 : Int) (x302002_8 : Int) (x302003_8 : Int) (x302004_8 : Int) (x302005_8 : Int) (x303000_8 : Int) (x303001_8 : Int) (x303002_8 : Int) (x303003_8 : Int) (x303004_8 : Int) (x303005_8 : Int), v7 = .bool x7_8 ∧ v8 = .bool x8_8 ∧ Aside0 (marqueelaw05_CharsetPlays.j3 kq l0 x5_1 x7_8 x8_8 x302000_8 x302001_8 x302002_8 x302003_8 x302004_8 x302005_8 x303000_8 x303001_8 x303002_8 x303003_8 x303004_8 x303005_8 = some r) ∧ Aside0 (kq ≤ kj3) ∧ Aside0 (wc.heap[gb301]? = some (.cells #[.int .u8 x302000_8, .int .u8 x302001_8, .int .u8 x302002_8, .int .u8 x302003_8, .int .u8 x302004_8, .int .u8 x302005_8] 32 (0, 0))) ∧ Aside0 (wc.heap[gb302]? = some (.cells #[.int .i64 x303000_8, .int .i64 x303001_8, .int .i64 x303002_8, .int .i64 x303003_8, .int .i64 x303004_8, .int .i64 x303005_8] 39 (0, 0))) ∧ Aside0 (wc.heap[gb305]? = some (.cells #[.int .u8 ((rd_T42 l0 x5_1).f0), .int .i8 ((rd_T42 l0 x5_1).f1), .int .u8 ((rd_T42 l0 x5_1).f2), .int .i32 ((rd_T42 l0 x5_1).f3)] 42 (0, 0))) ∧ Aside0 (Below w.heap.size w wc))
                case first =>
                  have H := HC9.out
                  clear HC9
                  have HC14 := Aside0.mk H
                  clear H
                  go_upto_if 49 with (fail)
                  go_cut [49] (fun v49 wc => ∃ (kq : Nat) (x49_13 : Bool), v49 = .bool x49_13 ∧ Aside0 (marqueelaw05_CharsetPlays.j2 kq l0 x5_1 true (Int.tmod ((rd_T42 l0 x5_1).f0) 8) x49_13 x302000_1 x302001_1 x302002_1 x302003_1 x302004_1 x302005_1 x303000_1 x303001_1 x303002_1 x303003_1 x303004_1 x303005_1 ((rd_T42 l0 x5_1).f0) ((rd_T42 l0 x5_1).f1) ((rd_T42 l0 x5_1).f2) ((rd_T42 l0 x5_1).f3) = some r) ∧ Aside0 (kq ≤ kj3) ∧ Aside0 (wc.heap[gb301]? = some (.cells #[.int .u8 x302000_1, .int .u8 x302001_1, .int .u8 x302002_1, .int .u8 x302003_1, .int .u8 x302004_1, .int .u8 x302005_1] 32 (0, 0))) ∧ Aside0 (wc.heap[gb302]? = some (.cells #[.int .i64 x303000_1, .int .i64 x303001_1, .int .i64 x303002_1, .int .i64 x303003_1, .int .i64 x303004_1, .int .i64 x303005_1] 39 (0, 0))) ∧ Aside0 (wc.heap[gb305]? = some (.cells #[.int .u8 ((rd_T42 l0 x5_1).f0), .int .i8 ((rd_T42 l0 x5_1).f1), .int .u8 ((rd_T42 l0 x5_1).f2), .int .i32 ((rd_T42 l0 x5_1).f3)] 42 (0, 0))) ∧ Aside0 (Below w.heap.size w wc))
                  case first =>
                    have H := HC14.out
                    clear HC14
                    by_cases c15 : (Int.tmod ((rd_T42 l0 x5_1).f0) 8) = 0
                    · rw [if_pos c15] at H
                      have c15b0 : ((Int.tmod ((rd_T42 l0 x5_1).f0) 8) == 0) = true := beq_iff_eq.mpr c15
                      have c15b1 : ((Int.tmod ((rd_T42 l0 x5_1).f0) 8) != 0) = false := bne_eq_false_iff_eq.mpr c15
                      clear c15
                      (first | rw [c15b0] | (simp only [i64_w, i32_w]; rw [c15b0]) | skip)
                      have H' := Aside0.mk H
                      clear H
                      go_wp2
                      go_meet
                      case rel => exact ⟨_, (((Int.tmod ((rd_T42 l0 x5_1).f0) 8) == 0)), (by first | rfl | (simp; done) | (simp [*]; done)), H', ⟨by have := HK1.out; have := HJ3.out; first | omega | exact Nat.le_refl _⟩, ⟨by (with_reducible repeat (first | refine blk_drewN ?_ _ | refine blk_drew ?_ | refine blk_alloc ?_ _)); refine blk_far ?_ NB301_305.out _; (with_reducible repeat (first | refine blk_drewN ?_ _ | refine blk_drew ?_ | refine blk_alloc ?_ _)); refine blk_far ?_ NB301_305.out _; (with_reducible repeat (first | refine blk_drewN ?_ _ | refine blk_drew ?_ | refine blk_alloc ?_ _)); refine blk_far ?_ NB301_305.out _; (with_reducible repeat (first | refine blk_drewN ?_ _ | refine blk_drew ?_ | refine blk_alloc ?_ _)); refine blk_far ?_ NB301_305.out _; (with_reducible repeat (first | refine blk_drewN ?_ _ | refine blk_drew ?_ | refine blk_alloc ?_ _)); exact BK301.out⟩, ⟨by (with_reducible repeat (first | refine blk_drewN ?_ _ | refine blk_drew ?_ | refine blk_alloc ?_ _)); refine blk_far ?_ NB302_305.out _; (with_reducible repeat (first | refine blk_drewN ?_ _ | refine blk_drew ?_ | refine blk_alloc ?_ _)); refine blk_far ?_ NB302_305.out _; (with_reducible repeat (first | refine blk_drewN ?_ _ | refine blk_drew ?_ | refine blk_alloc ?_ _)); refine blk_far ?_ NB302_305.out _; (with_reducible repeat (first | refine blk_drewN ?_ _ | refine blk_drew ?_ | refine blk_alloc ?_ _)); refine blk_far ?_ NB302_305.out _; (with_reducible repeat (first | refine blk_drewN ?_ _ | refine blk_drew ?_ | refine blk_alloc ?_ _)); exact BK302.out⟩, ⟨by (with_reducible repeat (first | refine blk_drewN ?_ _ | refine blk_drew ?_ | refine blk_alloc ?_ _)); refine blk_put (cs := #[.int .u8 ((rd_T42 l0 x5_1).f0), .int .i8 ((rd_T42 l0 x5_1).f1), .int .u8 ((rd_T42 l0 x5_1).f2), .int .i32 0]) ?_ 3 _ rfl; (with_reducible repeat (first | refine blk_drewN ?_ _ | refine blk_drew ?_ | refine blk_alloc ?_ _)); refine blk_put (cs := #[.int .u8 ((rd_T42 l0 x5_1).f0), .int .i8 ((rd_T42 l0 x5_1).f1), .int .u8 0, .int .i32 0]) ?_ 2 _ rfl; (with_reducible repeat (first | refine blk_drewN ?_ _ | refine blk_drew ?_ | refine blk_alloc ?_ _)); refine blk_put (cs := #[.int .u8 ((rd_T42 l0 x5_1).f0), .int .i8 0, .int .u8 0, .int .i32 0]) ?_ 1 _ rfl; (with_reducible repeat (first | refine blk_drewN ?_ _ | refine blk_drew ?_ | refine blk_alloc ?_ _)); refine blk_put (cs := #[.int .u8 0, .int .i8 0, .int .u8 0, .int .i32 0]) ?_ 0 _ rfl; (with_reducible repeat (first | refine blk_drewN ?_ _ | refine blk_drew ?_ | refine blk_alloc ?_ _)); exact BK305.out⟩, ⟨by repeat (first | (with_reducible first | exact HB.out | apply below_alloc | apply pw_below_drewN | apply below_drew1 | refine below_set ?_ GE301.out | refine below_set ?_ GE302.out | refine below_set ?_ GE305.out) | exact HB.out)⟩⟩
                    · rw [if_neg c15] at H
                      have c15b0 : ((Int.tmod ((rd_T42 l0 x5_1).f0) 8) == 0) = false := beq_eq_false_iff_ne.mpr c15
                      have c15b1 : ((Int.tmod ((rd_T42 l0 x5_1).f0) 8) != 0) = true := bne_iff_ne.mpr c15
                      (first | rw [c15b0] | (simp only [i64_w, i32_w]; rw [c15b0]) | skip)
                      have H' := Aside0.mk H
                      clear H
                      go_wp2
                      go_meet
                      case rel => exact ⟨_, (((Int.tmod ((rd_T42 l0 x5_1).f0) 8) == 1)), (by first | rfl | (simp; done) | (simp [*]; done)), H', ⟨by have := HK1.out; have := HJ3.out; first | omega | exact Nat.le_refl _⟩, ⟨by (with_reducible repeat (first | refine blk_drewN ?_ _ | refine blk_drew ?_ | refine blk_alloc ?_ _)); refine blk_far ?_ NB301_305.out _; (with_reducible repeat (first | refine blk_drewN ?_ _ | refine blk_drew ?_ | refine blk_alloc ?_ _)); refine blk_far ?_ NB301_305.out _; (with_reducible repeat (first | refine blk_drewN ?_ _ | refine blk_drew ?_ | refine blk_alloc ?_ _)); refine blk_far ?_ NB301_305.out _; (with_reducible repeat (first | refine blk_drewN ?_ _ | refine blk_drew ?_ | refine blk_alloc ?_ _)); refine blk_far ?_ NB301_305.out _; (with_reducible repeat (first | refine blk_drewN ?_ _ | refine blk_drew ?_ | refine blk_alloc ?_ _)); exact BK301.out⟩, ⟨by (with_reducible repeat (first | refine blk_drewN ?_ _ | refine blk_drew ?_ | refine blk_alloc ?_ _)); refine blk_far ?_ NB302_305.out _; (with_reducible repeat (first | refine blk_drewN ?_ _ | refine blk_drew ?_ | refine blk_alloc ?_ _)); refine blk_far ?_ NB302_305.out _; (with_reducible repeat (first | refine blk_drewN ?_ _ | refine blk_drew ?_ | refine blk_alloc ?_ _)); refine blk_far ?_ NB302_305.out _; (with_reducible repeat (first | refine blk_drewN ?_ _ | refine blk_drew ?_ | refine blk_alloc ?_ _)); refine blk_far ?_ NB302_305.out _; (with_reducible repeat (first | refine blk_drewN ?_ _ | refine blk_drew ?_ | refine blk_alloc ?_ _)); exact BK302.out⟩, ⟨by (with_reducible repeat (first | refine blk_drewN ?_ _ | refine blk_drew ?_ | refine blk_alloc ?_ _)); refine blk_put (cs := #[.int .u8 ((rd_T42 l0 x5_1).f0), .int .i8 ((rd_T42 l0 x5_1).f1), .int .u8 ((rd_T42 l0 x5_1).f2), .int .i32 0]) ?_ 3 _ rfl; (with_reducible repeat (first | refine blk_drewN ?_ _ | refine blk_drew ?_ | refine blk_alloc ?_ _)); refine blk_put (cs := #[.int .u8 ((rd_T42 l0 x5_1).f0), .int .i8 ((rd_T42 l0 x5_1).f1), .int .u8 0, .int .i32 0]) ?_ 2 _ rfl; (with_reducible repeat (first | refine blk_drewN ?_ _ | refine blk_drew ?_ | refine blk_alloc ?_ _)); refine blk_put (cs := #[.int .u8 ((rd_T42 l0 x5_1).f0), .int .i8 0, .int .u8 0, .int .i32 0]) ?_ 1 _ rfl; (with_reducible repeat (first | refine blk_drewN ?_ _ | refine blk_drew ?_ | refine blk_alloc ?_ _)); refine blk_put (cs := #[.int .u8 0, .int .i8 0, .int .u8 0, .int .i32 0]) ?_ 0 _ rfl; (with_reducible repeat (first | refine blk_drewN ?_ _ | refine blk_drew ?_ | refine blk_alloc ?_ _)); exact BK305.out⟩, ⟨by repeat (first | (with_reducible first | exact HB.out | apply below_alloc | apply pw_below_drewN | apply below_drew1 | refine below_set ?_ GE301.out | refine below_set ?_ GE302.out | refine below_set ?_ GE305.out) | exact HB.out)⟩⟩
                  case rest =>
                    clear HC14
                    try clear c1
                    try clear p2
                    try clear p3
                    try clear q3
                    try clear hx3
                    try clear c5
                    try clear c5b0
                    try clear c6
                    try clear c7
                    try clear c7b0
                    try clear c8
                    try clear c8b0
                    try clear c11
                    try clear c12
                    try clear c15
                    try clear c15b0
                    try clear c15b1
                    try clear hcz13_0
                    try clear hcz13_1
                    try clear hcz13_2
                    try clear hcz13_3
                    try clear hfz13_0
                    try clear hfz13_1
                    try clear hfz13_2
                    try clear hfz13_3
                    try clear hx304_0
                    try clear hx304_1
                    try clear hx304_2
                    try clear hx304_3
                    try clear p2
                    try clear p304
                    try clear q304
                    obtain ⟨kq, x49_13, rfl, HA, HJ13, BK301, BK302, BK305, HB⟩ := hcut
                    cases kq with
                    | zero => exact absurd HA.out (by simp [marqueelaw05_CharsetPlays.j2])
                    | succ kj13 =>
                      have H := HA.out
                      clear HA
                      simp only [marqueelaw05_CharsetPlays.j2] at H
                      by_cases c16 : x49_13 = true
                      · subst c16
                        have H1 : ((charset_Choice_Designate.f x302000_1 x302001_1 x302002_1 x302003_1 x302004_1 x302005_1 (wrap64 (((rd_T42 l0 x5_1).f1))) ((rd_T42 l0 x5_1).f2)).bind fun bt306 => ((marqueeref05_Choice_Designate.f x303000_1 x303001_1 x303002_1 x303003_1 x303004_1 x303005_1 (wrap64 (((rd_T42 l0 x5_1).f1))) ((rd_T42 l0 x5_1).f2)).bind fun bt313 => (marqueelaw05_CharsetPlays.j3 kj13 l0 x5_1 bt306.2.2.2.2.2.2 bt313.2.2.2.2.2.2 bt306.1 bt306.2.1 bt306.2.2.1 bt306.2.2.2.1 bt306.2.2.2.2.1 bt306.2.2.2.2.2.1 bt313.1 bt313.2.1 bt313.2.2.1 bt313.2.2.2.1 bt313.2.2.2.2.1 bt313.2.2.2.2.2.1))) = some r := by rw [if_pos rfl] at H; exact H
                        clear H
                        have H := H1
                        clear H1
                        replace H := Option.bind_eq_some_iff.mp H
                        obtain ⟨⟨t306, t307, t308, t309, t310, t311, t312⟩, A170, H⟩ := H
                        replace H : ((marqueeref05_Choice_Designate.f x303000_1 x303001_1 x303002_1 x303003_1 x303004_1 x303005_1 (wrap64 (((rd_T42 l0 x5_1).f1))) ((rd_T42 l0 x5_1).f2)).bind fun bt313 => (marqueelaw05_CharsetPlays.j3 kj13 l0 x5_1 t312 bt313.2.2.2.2.2.2 t306 t307 t308 t309 t310 t311 bt313.1 bt313.2.1 bt313.2.2.1 bt313.2.2.2.1 bt313.2.2.2.2.1 bt313.2.2.2.2.2.1)) = some r := H
                        have A17 := Aside0.mk A170
                        clear A170
                        replace H := Option.bind_eq_some_iff.mp H
                        obtain ⟨⟨t313, t314, t315, t316, t317, t318, t319⟩, A180, H⟩ := H
                        replace H : (marqueelaw05_CharsetPlays.j3 kj13 l0 x5_1 t312 t319 t306 t307 t308 t309 t310 t311 t313 t314 t315 t316 t317 t318) = some r := H
                        have A18 := Aside0.mk A180
                        clear A180
                        have H' := Aside0.mk H
                        clear H
                        have hnb19 := NB301_302.out
                        have hnc19 := NB302_301.out
                        have hnb20 := NB301_305.out
                        have hnc20 := NB305_301.out
                        have hcz21_0 : wc.cell? ⟨gb301, 0, none⟩ = some (.int .u8 x302000_1) := (blk_cell BK301.out 0).trans rfl
                        have hcz21_1 : wc.cell? ⟨gb301, 1, none⟩ = some (.int .u8 x302001_1) := (blk_cell BK301.out 1).trans rfl
                        have hcz21_2 : wc.cell? ⟨gb301, 2, none⟩ = some (.int .u8 x302002_1) := (blk_cell BK301.out 2).trans rfl
                        have hcz21_3 : wc.cell? ⟨gb301, 3, none⟩ = some (.int .u8 x302003_1) := (blk_cell BK301.out 3).trans rfl
                        have hcz21_4 : wc.cell? ⟨gb301, 4, none⟩ = some (.int .u8 x302004_1) := (blk_cell BK301.out 4).trans rfl
                        have hcz21_5 : wc.cell? ⟨gb301, 5, none⟩ = some (.int .u8 x302005_1) := (blk_cell BK301.out 5).trans rfl
                        have hfz21_0 := blk_frozen BK301.out 0
                        have hfz21_1 := blk_frozen BK301.out 1
                        have hfz21_2 := blk_frozen BK301.out 2
                        have hfz21_3 := blk_frozen BK301.out 3
                        have hfz21_4 := blk_frozen BK301.out 4
                        have hfz21_5 := blk_frozen BK301.out 5
                        have hnb22 := NB305_302.out
                        have hnc22 := NB302_305.out
                        have hcz23_0 : wc.cell? ⟨gb305, 0, none⟩ = some (.int .u8 ((rd_T42 l0 x5_1).f0)) := (blk_cell BK305.out 0).trans rfl
                        have hcz23_1 : wc.cell? ⟨gb305, 1, none⟩ = some (.int .i8 ((rd_T42 l0 x5_1).f1)) := (blk_cell BK305.out 1).trans rfl
                        have hcz23_2 : wc.cell? ⟨gb305, 2, none⟩ = some (.int .u8 ((rd_T42 l0 x5_1).f2)) := (blk_cell BK305.out 2).trans rfl
                        have hcz23_3 : wc.cell? ⟨gb305, 3, none⟩ = some (.int .i32 ((rd_T42 l0 x5_1).f3)) := (blk_cell BK305.out 3).trans rfl
                        have hfz23_0 := blk_frozen BK305.out 0
                        have hfz23_1 := blk_frozen BK305.out 1
                        have hfz23_2 := blk_frozen BK305.out 2
                        have hfz23_3 := blk_frozen BK305.out 3
                        go_wp2_with (first | ((with_reducible refine gate_callee (f := 14) rfl ?_); refine goesL_ (some 59) rfl rfl Try.func14 (by kernel_rfl) rfl #[.agg #[.int .u8 x302000_1, .int .u8 x302001_1, .int .u8 x302002_1, .int .u8 x302003_1, .int .u8 x302004_1, .int .u8 x302005_1], .int .i64 (wrap64 (((rd_T42 l0 x5_1).f1))), .int .u8 ((rd_T42 l0 x5_1).f2)] rfl (by (try simp only [List.map_toArray, List.map_cons, List.map_nil]); first | done | rfl | (simp only [List.length_drop, List.length_take]; rfl)) ?_; (with_reducible refine (charset_Choice_Designate.calls x302000_1 x302001_1 x302002_1 x302003_1 x302004_1 x302005_1 (wrap64 (((rd_T42 l0 x5_1).f1))) ((rd_T42 l0 x5_1).f2) t306 t307 t308 t309 t310 t311 t312 _ A17.out).mono ?_); rintro e w24 ⟨rfl, hb⟩; refine ⟨_, rfl, ?_⟩; have n0_ := Aside0.mk (blk_below (g := gb301) (o := .cells #[.int .u8 x302000_1, .int .u8 x302001_1, .int .u8 x302002_1, .int .u8 x302003_1, .int .u8 x302004_1, .int .u8 x302005_1] 32 (0, 0)) (by (with_reducible repeat (first | refine blk_drewN ?_ _ | refine blk_drew ?_ | refine blk_alloc ?_ _)); exact BK301.out) hb); have n1_ := Aside0.mk (blk_below (g := gb302) (o := .cells #[.int .i64 x303000_1, .int .i64 x303001_1, .int .i64 x303002_1, .int .i64 x303003_1, .int .i64 x303004_1, .int .i64 x303005_1] 39 (0, 0)) (by (with_reducible repeat (first | refine blk_drewN ?_ _ | refine blk_drew ?_ | refine blk_alloc ?_ _)); exact BK302.out) hb); have n2_ := Aside0.mk (blk_below (g := gb305) (o := .cells #[.int .u8 ((rd_T42 l0 x5_1).f0), .int .i8 ((rd_T42 l0 x5_1).f1), .int .u8 ((rd_T42 l0 x5_1).f2), .int .i32 ((rd_T42 l0 x5_1).f3)] 42 (0, 0)) (by (with_reducible repeat (first | refine blk_drewN ?_ _ | refine blk_drew ?_ | refine blk_alloc ?_ _)); exact BK305.out) hb); have n3_ := Aside0.mk (below_step (by repeat (first | (with_reducible first | exact HB.out | apply below_alloc | apply pw_below_drewN | apply below_drew1 | refine below_set ?_ GE301.out | refine below_set ?_ GE302.out | refine below_set ?_ GE305.out) | exact HB.out)) hb); clear BK301; clear BK302; clear BK305; clear HB; have BK301 := n0_; have BK302 := n1_; have BK305 := n2_; have HB := n3_; clear n0_ n1_ n2_ n3_; (try clear hb); (try clear hb2); (try clear hk); (try clear hi); have hcz25_0 : w24.cell? ⟨gb301, 0, none⟩ = some (.int .u8 x302000_1) := (blk_cell BK301.out 0).trans rfl; have hcz25_1 : w24.cell? ⟨gb301, 1, none⟩ = some (.int .u8 x302001_1) := (blk_cell BK301.out 1).trans rfl; have hcz25_2 : w24.cell? ⟨gb301, 2, none⟩ = some (.int .u8 x302002_1) := (blk_cell BK301.out 2).trans rfl; have hcz25_3 : w24.cell? ⟨gb301, 3, none⟩ = some (.int .u8 x302003_1) := (blk_cell BK301.out 3).trans rfl; have hcz25_4 : w24.cell? ⟨gb301, 4, none⟩ = some (.int .u8 x302004_1) := (blk_cell BK301.out 4).trans rfl; have hcz25_5 : w24.cell? ⟨gb301, 5, none⟩ = some (.int .u8 x302005_1) := (blk_cell BK301.out 5).trans rfl; have hfz25_0 := blk_frozen BK301.out 0; have hfz25_1 := blk_frozen BK301.out 1; have hfz25_2 := blk_frozen BK301.out 2; have hfz25_3 := blk_frozen BK301.out 3; have hfz25_4 := blk_frozen BK301.out 4; have hfz25_5 := blk_frozen BK301.out 5; have hcz26_0 : w24.cell? ⟨gb302, 0, none⟩ = some (.int .i64 x303000_1) := (blk_cell BK302.out 0).trans rfl; have hcz26_1 : w24.cell? ⟨gb302, 1, none⟩ = some (.int .i64 x303001_1) := (blk_cell BK302.out 1).trans rfl; have hcz26_2 : w24.cell? ⟨gb302, 2, none⟩ = some (.int .i64 x303002_1) := (blk_cell BK302.out 2).trans rfl; have hcz26_3 : w24.cell? ⟨gb302, 3, none⟩ = some (.int .i64 x303003_1) := (blk_cell BK302.out 3).trans rfl; have hcz26_4 : w24.cell? ⟨gb302, 4, none⟩ = some (.int .i64 x303004_1) := (blk_cell BK302.out 4).trans rfl; have hcz26_5 : w24.cell? ⟨gb302, 5, none⟩ = some (.int .i64 x303005_1) := (blk_cell BK302.out 5).trans rfl; have hfz26_0 := blk_frozen BK302.out 0; have hfz26_1 := blk_frozen BK302.out 1; have hfz26_2 := blk_frozen BK302.out 2; have hfz26_3 := blk_frozen BK302.out 3; have hfz26_4 := blk_frozen BK302.out 4; have hfz26_5 := blk_frozen BK302.out 5; have hcz27_0 : w24.cell? ⟨gb305, 0, none⟩ = some (.int .u8 ((rd_T42 l0 x5_1).f0)) := (blk_cell BK305.out 0).trans rfl; have hcz27_1 : w24.cell? ⟨gb305, 1, none⟩ = some (.int .i8 ((rd_T42 l0 x5_1).f1)) := (blk_cell BK305.out 1).trans rfl; have hcz27_2 : w24.cell? ⟨gb305, 2, none⟩ = some (.int .u8 ((rd_T42 l0 x5_1).f2)) := (blk_cell BK305.out 2).trans rfl; have hcz27_3 : w24.cell? ⟨gb305, 3, none⟩ = some (.int .i32 ((rd_T42 l0 x5_1).f3)) := (blk_cell BK305.out 3).trans rfl; have hfz27_0 := blk_frozen BK305.out 0; have hfz27_1 := blk_frozen BK305.out 1; have hfz27_2 := blk_frozen BK305.out 2; have hfz27_3 := blk_frozen BK305.out 3) | ((with_reducible refine gate_callee (f := 15) rfl ?_); refine goesL_ (some 69) rfl rfl Try.func15 (by kernel_rfl) rfl #[.agg #[.int .i64 x303000_1, .int .i64 x303001_1, .int .i64 x303002_1, .int .i64 x303003_1, .int .i64 x303004_1, .int .i64 x303005_1], .int .i64 (wrap64 (((rd_T42 l0 x5_1).f1))), .int .u8 ((rd_T42 l0 x5_1).f2)] rfl (by (try simp only [List.map_toArray, List.map_cons, List.map_nil]); first | done | rfl | (simp only [List.length_drop, List.length_take]; rfl)) ?_; (with_reducible refine (marqueeref05_Choice_Designate.calls x303000_1 x303001_1 x303002_1 x303003_1 x303004_1 x303005_1 (wrap64 (((rd_T42 l0 x5_1).f1))) ((rd_T42 l0 x5_1).f2) t313 t314 t315 t316 t317 t318 t319 _ A18.out).mono ?_); rintro e w28 ⟨rfl, hb⟩; refine ⟨_, rfl, ?_⟩; have n0_ := Aside0.mk (blk_below (g := gb301) (o := .cells #[.int .u8 t306, .int .u8 t307, .int .u8 t308, .int .u8 t309, .int .u8 t310, .int .u8 t311] 32 (0, 0)) (by (with_reducible repeat (first | refine blk_drewN ?_ _ | refine blk_drew ?_ | refine blk_alloc ?_ _)); refine blk_put (cs := #[.int .u8 t306, .int .u8 t307, .int .u8 t308, .int .u8 t309, .int .u8 t310, .int .u8 x302005_1]) ?_ 5 _ rfl; (with_reducible repeat (first | refine blk_drewN ?_ _ | refine blk_drew ?_ | refine blk_alloc ?_ _)); refine blk_put (cs := #[.int .u8 t306, .int .u8 t307, .int .u8 t308, .int .u8 t309, .int .u8 x302004_1, .int .u8 x302005_1]) ?_ 4 _ rfl; (with_reducible repeat (first | refine blk_drewN ?_ _ | refine blk_drew ?_ | refine blk_alloc ?_ _)); refine blk_put (cs := #[.int .u8 t306, .int .u8 t307, .int .u8 t308, .int .u8 x302003_1, .int .u8 x302004_1, .int .u8 x302005_1]) ?_ 3 _ rfl; (with_reducible repeat (first | refine blk_drewN ?_ _ | refine blk_drew ?_ | refine blk_alloc ?_ _)); refine blk_put (cs := #[.int .u8 t306, .int .u8 t307, .int .u8 x302002_1, .int .u8 x302003_1, .int .u8 x302004_1, .int .u8 x302005_1]) ?_ 2 _ rfl; (with_reducible repeat (first | refine blk_drewN ?_ _ | refine blk_drew ?_ | refine blk_alloc ?_ _)); refine blk_put (cs := #[.int .u8 t306, .int .u8 x302001_1, .int .u8 x302002_1, .int .u8 x302003_1, .int .u8 x302004_1, .int .u8 x302005_1]) ?_ 1 _ rfl; (with_reducible repeat (first | refine blk_drewN ?_ _ | refine blk_drew ?_ | refine blk_alloc ?_ _)); refine blk_put (cs := #[.int .u8 x302000_1, .int .u8 x302001_1, .int .u8 x302002_1, .int .u8 x302003_1, .int .u8 x302004_1, .int .u8 x302005_1]) ?_ 0 _ rfl; (with_reducible repeat (first | refine blk_drewN ?_ _ | refine blk_drew ?_ | refine blk_alloc ?_ _)); exact BK301.out) hb); have n1_ := Aside0.mk (blk_below (g := gb302) (o := .cells #[.int .i64 x303000_1, .int .i64 x303001_1, .int .i64 x303002_1, .int .i64 x303003_1, .int .i64 x303004_1, .int .i64 x303005_1] 39 (0, 0)) (by (with_reducible repeat (first | refine blk_drewN ?_ _ | refine blk_drew ?_ | refine blk_alloc ?_ _)); refine blk_far ?_ NB302_301.out _; (with_reducible repeat (first | refine blk_drewN ?_ _ | refine blk_drew ?_ | refine blk_alloc ?_ _)); refine blk_far ?_ NB302_301.out _; (with_reducible repeat (first | refine blk_drewN ?_ _ | refine blk_drew ?_ | refine blk_alloc ?_ _)); refine blk_far ?_ NB302_301.out _; (with_reducible repeat (first | refine blk_drewN ?_ _ | refine blk_drew ?_ | refine blk_alloc ?_ _)); refine blk_far ?_ NB302_301.out _; (with_reducible repeat (first | refine blk_drewN ?_ _ | refine blk_drew ?_ | refine blk_alloc ?_ _)); refine blk_far ?_ NB302_301.out _; (with_reducible repeat (first | refine blk_drewN ?_ _ | refine blk_drew ?_ | refine blk_alloc ?_ _)); refine blk_far ?_ NB302_301.out _; (with_reducible repeat (first | refine blk_drewN ?_ _ | refine blk_drew ?_ | refine blk_alloc ?_ _)); exact BK302.out) hb); have n2_ := Aside0.mk (blk_below (g := gb305) (o := .cells #[.int .u8 ((rd_T42 l0 x5_1).f0), .int .i8 ((rd_T42 l0 x5_1).f1), .int .u8 ((rd_T42 l0 x5_1).f2), .int .i32 ((rd_T42 l0 x5_1).f3)] 42 (0, 0)) (by (with_reducible repeat (first | refine blk_drewN ?_ _ | refine blk_drew ?_ | refine blk_alloc ?_ _)); refine blk_far ?_ NB305_301.out _; (with_reducible repeat (first | refine blk_drewN ?_ _ | refine blk_drew ?_ | refine blk_alloc ?_ _)); refine blk_far ?_ NB305_301.out _; (with_reducible repeat (first | refine blk_drewN ?_ _ | refine blk_drew ?_ | refine blk_alloc ?_ _)); refine blk_far ?_ NB305_301.out _; (with_reducible repeat (first | refine blk_drewN ?_ _ | refine blk_drew ?_ | refine blk_alloc ?_ _)); refine blk_far ?_ NB305_301.out _; (with_reducible repeat (first | refine blk_drewN ?_ _ | refine blk_drew ?_ | refine blk_alloc ?_ _)); refine blk_far ?_ NB305_301.out _; (with_reducible repeat (first | refine blk_drewN ?_ _ | refine blk_drew ?_ | refine blk_alloc ?_ _)); refine blk_far ?_ NB305_301.out _; (with_reducible repeat (first | refine blk_drewN ?_ _ | refine blk_drew ?_ | refine blk_alloc ?_ _)); exact BK305.out) hb); have n3_ := Aside0.mk (below_step (by repeat (first | (with_reducible first | exact HB.out | apply below_alloc | apply pw_below_drewN | apply below_drew1 | refine below_set ?_ GE301.out | refine below_set ?_ GE302.out | refine below_set ?_ GE305.out) | exact HB.out)) hb); clear BK301; clear BK302; clear BK305; clear HB; have BK301 := n0_; have BK302 := n1_; have BK305 := n2_; have HB := n3_; clear n0_ n1_ n2_ n3_; (try clear hb); (try clear hb2); (try clear hk); (try clear hi); have hcz29_0 : w28.cell? ⟨gb302, 0, none⟩ = some (.int .i64 x303000_1) := (blk_cell BK302.out 0).trans rfl; have hcz29_1 : w28.cell? ⟨gb302, 1, none⟩ = some (.int .i64 x303001_1) := (blk_cell BK302.out 1).trans rfl; have hcz29_2 : w28.cell? ⟨gb302, 2, none⟩ = some (.int .i64 x303002_1) := (blk_cell BK302.out 2).trans rfl; have hcz29_3 : w28.cell? ⟨gb302, 3, none⟩ = some (.int .i64 x303003_1) := (blk_cell BK302.out 3).trans rfl; have hcz29_4 : w28.cell? ⟨gb302, 4, none⟩ = some (.int .i64 x303004_1) := (blk_cell BK302.out 4).trans rfl; have hcz29_5 : w28.cell? ⟨gb302, 5, none⟩ = some (.int .i64 x303005_1) := (blk_cell BK302.out 5).trans rfl; have hfz29_0 := blk_frozen BK302.out 0; have hfz29_1 := blk_frozen BK302.out 1; have hfz29_2 := blk_frozen BK302.out 2; have hfz29_3 := blk_frozen BK302.out 3; have hfz29_4 := blk_frozen BK302.out 4; have hfz29_5 := blk_frozen BK302.out 5))
                        go_meet
                        case rel => exact ⟨_, (t312), (t319), (t306), (t307), (t308), (t309), (t310), (t311), (t313), (t314), (t315), (t316), (t317), (t318), (by first | rfl | (simp; done) | (simp [*]; done)), (by first | rfl | (simp; done) | (simp [*]; done)), H', ⟨by have := HK1.out; have := HJ3.out; have := HJ13.out; first | omega | exact Nat.le_refl _⟩, ⟨by (with_reducible repeat (first | refine blk_drewN ?_ _ | refine blk_drew ?_ | refine blk_alloc ?_ _)); refine blk_far ?_ NB301_302.out _; (with_reducible repeat (first | refine blk_drewN ?_ _ | refine blk_drew ?_ | refine blk_alloc ?_ _)); refine blk_far ?_ NB301_302.out _; (with_reducible repeat (first | refine blk_drewN ?_ _ | refine blk_drew ?_ | refine blk_alloc ?_ _)); refine blk_far ?_ NB301_302.out _; (with_reducible repeat (first | refine blk_drewN ?_ _ | refine blk_drew ?_ | refine blk_alloc ?_ _)); refine blk_far ?_ NB301_302.out _; (with_reducible repeat (first | refine blk_drewN ?_ _ | refine blk_drew ?_ | refine blk_alloc ?_ _)); refine blk_far ?_ NB301_302.out _; (with_reducible repeat (first | refine blk_drewN ?_ _ | refine blk_drew ?_ | refine blk_alloc ?_ _)); refine blk_far ?_ NB301_302.out _; (with_reducible repeat (first | refine blk_drewN ?_ _ | refine blk_drew ?_ | refine blk_alloc ?_ _)); exact BK301.out⟩, ⟨by (with_reducible repeat (first | refine blk_drewN ?_ _ | refine blk_drew ?_ | refine blk_alloc ?_ _)); refine blk_put (cs := #[.int .i64 t313, .int .i64 t314, .int .i64 t315, .int .i64 t316, .int .i64 t317, .int .i64 x303005_1]) ?_ 5 _ rfl; (with_reducible repeat (first | refine blk_drewN ?_ _ | refine blk_drew ?_ | refine blk_alloc ?_ _)); refine blk_put (cs := #[.int .i64 t313, .int .i64 t314, .int .i64 t315, .int .i64 t316, .int .i64 x303004_1, .int .i64 x303005_1]) ?_ 4 _ rfl; (with_reducible repeat (first | refine blk_drewN ?_ _ | refine blk_drew ?_ | refine blk_alloc ?_ _)); refine blk_put (cs := #[.int .i64 t313, .int .i64 t314, .int .i64 t315, .int .i64 x303003_1, .int .i64 x303004_1, .int .i64 x303005_1]) ?_ 3 _ rfl; (with_reducible repeat (first | refine blk_drewN ?_ _ | refine blk_drew ?_ | refine blk_alloc ?_ _)); refine blk_put (cs := #[.int .i64 t313, .int .i64 t314, .int .i64 x303002_1, .int .i64 x303003_1, .int .i64 x303004_1, .int .i64 x303005_1]) ?_ 2 _ rfl; (with_reducible repeat (first | refine blk_drewN ?_ _ | refine blk_drew ?_ | refine blk_alloc ?_ _)); refine blk_put (cs := #[.int .i64 t313, .int .i64 x303001_1, .int .i64 x303002_1, .int .i64 x303003_1, .int .i64 x303004_1, .int .i64 x303005_1]) ?_ 1 _ rfl; (with_reducible repeat (first | refine blk_drewN ?_ _ | refine blk_drew ?_ | refine blk_alloc ?_ _)); refine blk_put (cs := #[.int .i64 x303000_1, .int .i64 x303001_1, .int .i64 x303002_1, .int .i64 x303003_1, .int .i64 x303004_1, .int .i64 x303005_1]) ?_ 0 _ rfl; (with_reducible repeat (first | refine blk_drewN ?_ _ | refine blk_drew ?_ | refine blk_alloc ?_ _)); exact BK302.out⟩, ⟨by (with_reducible repeat (first | refine blk_drewN ?_ _ | refine blk_drew ?_ | refine blk_alloc ?_ _)); refine blk_far ?_ NB305_302.out _; (with_reducible repeat (first | refine blk_drewN ?_ _ | refine blk_drew ?_ | refine blk_alloc ?_ _)); refine blk_far ?_ NB305_302.out _; (with_reducible repeat (first | refine blk_drewN ?_ _ | refine blk_drew ?_ | refine blk_alloc ?_ _)); refine blk_far ?_ NB305_302.out _; (with_reducible repeat (first | refine blk_drewN ?_ _ | refine blk_drew ?_ | refine blk_alloc ?_ _)); refine blk_far ?_ NB305_302.out _; (with_reducible repeat (first | refine blk_drewN ?_ _ | refine blk_drew ?_ | refine blk_alloc ?_ _)); refine blk_far ?_ NB305_302.out _; (with_reducible repeat (first | refine blk_drewN ?_ _ | refine blk_drew ?_ | refine blk_alloc ?_ _)); refine blk_far ?_ NB305_302.out _; (with_reducible repeat (first | refine blk_drewN ?_ _ | refine blk_drew ?_ | refine blk_alloc ?_ _)); exact BK305.out⟩, ⟨by repeat (first | (with_reducible first | exact HB.out | apply below_alloc | apply pw_below_drewN | apply below_drew1 | refine below_set ?_ GE301.out | refine below_set ?_ GE302.out | refine below_set ?_ GE305.out) | exact HB.out)⟩⟩
                      · replace c16 := Bool.eq_false_iff.mpr c16
                        subst c16
                        have H1 : (if (Int.tmod ((rd_T42 l0 x5_1).f0) 8) = 2 then ((charset_Choice_Lock.f x302000_1 x302001_1 x302002_1 x302003_1 x302004_1 x302005_1 ((rd_T42 l0 x5_1).f2)).bind fun bt320 => ((marqueeref05_Choice_Lock.f kj13 x303000_1 x303001_1 x303002_1 x303003_1 x303004_1 x303005_1 ((rd_T42 l0 x5_1).f2)).bind fun bt327 => (marqueelaw05_CharsetPlays.j3 kj13 l0 x5_1 bt320.2.2.2.2.2.2 bt327.2.2.2.2.2.2 bt320.1 bt320.2.1 bt320.2.2.1 bt320.2.2.2.1 bt320.2.2.2.2.1 bt320.2.2.2.2.2.1 bt327.1 bt327.2.1 bt327.2.2.1 bt327.2.2.2.1 bt327.2.2.2.2.1 bt327.2.2.2.2.2.1))) else (if (Int.tmod ((rd_T42 l0 x5_1).f0) 8) = 3 then ((charset_Choice_Single.f x302000_1 x302001_1 x302002_1 x302003_1 x302004_1 x302005_1 (wrap64 (((rd_T42 l0 x5_1).f1)))).bind fun bt334 => ((marqueeref05_Choice_Single.f x303000_1 x303001_1 x303002_1 x303003_1 x303004_1 x303005_1 (wrap64 (((rd_T42 l0 x5_1).f1)))).bind fun bt341 => (marqueelaw05_CharsetPlays.j3 kj13 l0 x5_1 bt334.2.2.2.2.2.2 bt341.2.2.2.2.2.2 bt334.1 bt334.2.1 bt334.2.2.1 bt334.2.2.2.1 bt334.2.2.2.2.1 bt334.2.2.2.2.2.1 bt341.1 bt341.2.1 bt341.2.2.1 bt341.2.2.2.1 bt341.2.2.2.2.1 bt341.2.2.2.2.2.1))) else ((charset_Choice_Map.f kj13 x302000_1 x302001_1 x302002_1 x302003_1 x302004_1 x302005_1 ((rd_T42 l0 x5_1).f3)).bind fun bt348 => ((marqueeref05_Choice_Map.f kj13 x303000_1 x303001_1 x303002_1 x303003_1 x303004_1 x303005_1 ((rd_T42 l0 x5_1).f3)).bind fun bt356 => (marqueelaw05_CharsetPlays.j3 kj13 l0 x5_1 (bt348.2.2.2.2.2.2 == bt356.2.2.2.2.2.2) true bt348.1 bt348.2.1 bt348.2.2.1 bt348.2.2.2.1 bt348.2.2.2.2.1 bt348.2.2.2.2.2.1 bt356.1 bt356.2.1 bt356.2.2.1 bt356.2.2.2.1 bt356.2.2.2.2.1 bt356.2.2.2.2.2.1))))) = some r := by rw [if_neg (show ¬ (false = true) by decide)] at H; exact H
                        clear H
                        have H := H1
                        clear H1
                        by_cases c30 : (Int.tmod ((rd_T42 l0 x5_1).f0) 8) = 2
                        · rw [if_pos c30] at H
                          have c30b0 : ((Int.tmod ((rd_T42 l0 x5_1).f0) 8) == 2) = true := beq_iff_eq.mpr c30
                          have c30b1 : ((Int.tmod ((rd_T42 l0 x5_1).f0) 8) != 2) = false := bne_eq_false_iff_eq.mpr c30
                          clear c30
                          replace H := Option.bind_eq_some_iff.mp H
                          obtain ⟨⟨t320, t321, t322, t323, t324, t325, t326⟩, A310, H⟩ := H
                          replace H : ((marqueeref05_Choice_Lock.f kj13 x303000_1 x303001_1 x303002_1 x303003_1 x303004_1 x303005_1 ((rd_T42 l0 x5_1).f2)).bind fun bt327 => (marqueelaw05_CharsetPlays.j3 kj13 l0 x5_1 t326 bt327.2.2.2.2.2.2 t320 t321 t322 t323 t324 t325 bt327.1 bt327.2.1 bt327.2.2.1 bt327.2.2.2.1 bt327.2.2.2.2.1 bt327.2.2.2.2.2.1)) = some r := H
                          have A31 := Aside0.mk A310
                          clear A310
                          replace H := Option.bind_eq_some_iff.mp H
                          obtain ⟨⟨t327, t328, t329, t330, t331, t332, t333⟩, A320, H⟩ := H
                          replace H : (marqueelaw05_CharsetPlays.j3 kj13 l0 x5_1 t326 t333 t320 t321 t322 t323 t324 t325 t327 t328 t329 t330 t331 t332) = some r := H
                          have A32 := Aside0.mk A320
                          clear A320
                          have H' := Aside0.mk H
                          clear H
                          have hnb33 := NB301_302.out
                          have hnc33 := NB302_301.out
                          have hnb34 := NB301_305.out
                          have hnc34 := NB305_301.out
                          have hcz35_0 : wc.cell? ⟨gb301, 0, none⟩ = some (.int .u8 x302000_1) := (blk_cell BK301.out 0).trans rfl
                          have hcz35_1 : wc.cell? ⟨gb301, 1, none⟩ = some (.int .u8 x302001_1) := (blk_cell BK301.out 1).trans rfl
                          have hcz35_2 : wc.cell? ⟨gb301, 2, none⟩ = some (.int .u8 x302002_1) := (blk_cell BK301.out 2).trans rfl
                          have hcz35_3 : wc.cell? ⟨gb301, 3, none⟩ = some (.int .u8 x302003_1) := (blk_cell BK301.out 3).trans rfl
                          have hcz35_4 : wc.cell? ⟨gb301, 4, none⟩ = some (.int .u8 x302004_1) := (blk_cell BK301.out 4).trans rfl
                          have hcz35_5 : wc.cell? ⟨gb301, 5, none⟩ = some (.int .u8 x302005_1) := (blk_cell BK301.out 5).trans rfl
                          have hfz35_0 := blk_frozen BK301.out 0
                          have hfz35_1 := blk_frozen BK301.out 1
                          have hfz35_2 := blk_frozen BK301.out 2
                          have hfz35_3 := blk_frozen BK301.out 3
                          have hfz35_4 := blk_frozen BK301.out 4
                          have hfz35_5 := blk_frozen BK301.out 5
                          have hnb36 := NB305_302.out
                          have hnc36 := NB302_305.out
                          have hcz37_0 : wc.cell? ⟨gb305, 0, none⟩ = some (.int .u8 ((rd_T42 l0 x5_1).f0)) := (blk_cell BK305.out 0).trans rfl
                          have hcz37_1 : wc.cell? ⟨gb305, 1, none⟩ = some (.int .i8 ((rd_T42 l0 x5_1).f1)) := (blk_cell BK305.out 1).trans rfl
                          have hcz37_2 : wc.cell? ⟨gb305, 2, none⟩ = some (.int .u8 ((rd_T42 l0 x5_1).f2)) := (blk_cell BK305.out 2).trans rfl
                          have hcz37_3 : wc.cell? ⟨gb305, 3, none⟩ = some (.int .i32 ((rd_T42 l0 x5_1).f3)) := (blk_cell BK305.out 3).trans rfl
                          have hfz37_0 := blk_frozen BK305.out 0
                          have hfz37_1 := blk_frozen BK305.out 1
                          have hfz37_2 := blk_frozen BK305.out 2
                          have hfz37_3 := blk_frozen BK305.out 3
                          go_wp2_with (first | ((with_reducible refine gate_callee (f := 16) rfl ?_); refine goesL_ (some 78) rfl rfl Try.func16 (by kernel_rfl) rfl #[.agg #[.int .u8 x302000_1, .int .u8 x302001_1, .int .u8 x302002_1, .int .u8 x302003_1, .int .u8 x302004_1, .int .u8 x302005_1], .int .u8 ((rd_T42 l0 x5_1).f2)] rfl (by (try simp only [List.map_toArray, List.map_cons, List.map_nil]); first | done | rfl | (simp only [List.length_drop, List.length_take]; rfl)) ?_; (with_reducible refine (charset_Choice_Lock.calls x302000_1 x302001_1 x302002_1 x302003_1 x302004_1 x302005_1 ((rd_T42 l0 x5_1).f2) t320 t321 t322 t323 t324 t325 t326 _ A31.out).mono ?_); rintro e w38 ⟨rfl, hb⟩; refine ⟨_, rfl, ?_⟩; have n0_ := Aside0.mk (blk_below (g := gb301) (o := .cells #[.int .u8 x302000_1, .int .u8 x302001_1, .int .u8 x302002_1, .int .u8 x302003_1, .int .u8 x302004_1, .int .u8 x302005_1] 32 (0, 0)) (by (with_reducible repeat (first | refine blk_drewN ?_ _ | refine blk_drew ?_ | refine blk_alloc ?_ _)); exact BK301.out) hb); have n1_ := Aside0.mk (blk_below (g := gb302) (o := .cells #[.int .i64 x303000_1, .int .i64 x303001_1, .int .i64 x303002_1, .int .i64 x303003_1, .int .i64 x303004_1, .int .i64 x303005_1] 39 (0, 0)) (by (with_reducible repeat (first | refine blk_drewN ?_ _ | refine blk_drew ?_ | refine blk_alloc ?_ _)); exact BK302.out) hb); have n2_ := Aside0.mk (blk_below (g := gb305) (o := .cells #[.int .u8 ((rd_T42 l0 x5_1).f0), .int .i8 ((rd_T42 l0 x5_1).f1), .int .u8 ((rd_T42 l0 x5_1).f2), .int .i32 ((rd_T42 l0 x5_1).f3)] 42 (0, 0)) (by (with_reducible repeat (first | refine blk_drewN ?_ _ | refine blk_drew ?_ | refine blk_alloc ?_ _)); exact BK305.out) hb); have n3_ := Aside0.mk (below_step (by repeat (first | (with_reducible first | exact HB.out | apply below_alloc | apply pw_below_drewN | apply below_drew1 | refine below_set ?_ GE301.out | refine below_set ?_ GE302.out | refine below_set ?_ GE305.out) | exact HB.out)) hb); clear BK301; clear BK302; clear BK305; clear HB; have BK301 := n0_; have BK302 := n1_; have BK305 := n2_; have HB := n3_; clear n0_ n1_ n2_ n3_; (try clear hb); (try clear hb2); (try clear hk); (try clear hi); have hcz39_0 : w38.cell? ⟨gb301, 0, none⟩ = some (.int .u8 x302000_1) := (blk_cell BK301.out 0).trans rfl; have hcz39_1 : w38.cell? ⟨gb301, 1, none⟩ = some (.int .u8 x302001_1) := (blk_cell BK301.out 1).trans rfl; have hcz39_2 : w38.cell? ⟨gb301, 2, none⟩ = some (.int .u8 x302002_1) := (blk_cell BK301.out 2).trans rfl; have hcz39_3 : w38.cell? ⟨gb301, 3, none⟩ = some (.int .u8 x302003_1) := (blk_cell BK301.out 3).trans rfl; have hcz39_4 : w38.cell? ⟨gb301, 4, none⟩ = some (.int .u8 x302004_1) := (blk_cell BK301.out 4).trans rfl; have hcz39_5 : w38.cell? ⟨gb301, 5, none⟩ = some (.int .u8 x302005_1) := (blk_cell BK301.out 5).trans rfl; have hfz39_0 := blk_frozen BK301.out 0; have hfz39_1 := blk_frozen BK301.out 1; have hfz39_2 := blk_frozen BK301.out 2; have hfz39_3 := blk_frozen BK301.out 3; have hfz39_4 := blk_frozen BK301.out 4; have hfz39_5 := blk_frozen BK301.out 5; have hcz40_0 : w38.cell? ⟨gb302, 0, none⟩ = some (.int .i64 x303000_1) := (blk_cell BK302.out 0).trans rfl; have hcz40_1 : w38.cell? ⟨gb302, 1, none⟩ = some (.int .i64 x303001_1) := (blk_cell BK302.out 1).trans rfl; have hcz40_2 : w38.cell? ⟨gb302, 2, none⟩ = some (.int .i64 x303002_1) := (blk_cell BK302.out 2).trans rfl; have hcz40_3 : w38.cell? ⟨gb302, 3, none⟩ = some (.int .i64 x303003_1) := (blk_cell BK302.out 3).trans rfl; have hcz40_4 : w38.cell? ⟨gb302, 4, none⟩ = some (.int .i64 x303004_1) := (blk_cell BK302.out 4).trans rfl; have hcz40_5 : w38.cell? ⟨gb302, 5, none⟩ = some (.int .i64 x303005_1) := (blk_cell BK302.out 5).trans rfl; have hfz40_0 := blk_frozen BK302.out 0; have hfz40_1 := blk_frozen BK302.out 1; have hfz40_2 := blk_frozen BK302.out 2; have hfz40_3 := blk_frozen BK302.out 3; have hfz40_4 := blk_frozen BK302.out 4; have hfz40_5 := blk_frozen BK302.out 5; have hcz41_0 : w38.cell? ⟨gb305, 0, none⟩ = some (.int .u8 ((rd_T42 l0 x5_1).f0)) := (blk_cell BK305.out 0).trans rfl; have hcz41_1 : w38.cell? ⟨gb305, 1, none⟩ = some (.int .i8 ((rd_T42 l0 x5_1).f1)) := (blk_cell BK305.out 1).trans rfl; have hcz41_2 : w38.cell? ⟨gb305, 2, none⟩ = some (.int .u8 ((rd_T42 l0 x5_1).f2)) := (blk_cell BK305.out 2).trans rfl; have hcz41_3 : w38.cell? ⟨gb305, 3, none⟩ = some (.int .i32 ((rd_T42 l0 x5_1).f3)) := (blk_cell BK305.out 3).trans rfl; have hfz41_0 := blk_frozen BK305.out 0; have hfz41_1 := blk_frozen BK305.out 1; have hfz41_2 := blk_frozen BK305.out 2; have hfz41_3 := blk_frozen BK305.out 3) | ((with_reducible refine gate_callee (f := 17) rfl ?_); refine goesL_ (some 85) rfl rfl Try.func17 (by kernel_rfl) rfl #[.agg #[.int .i64 x303000_1, .int .i64 x303001_1, .int .i64 x303002_1, .int .i64 x303003_1, .int .i64 x303004_1, .int .i64 x303005_1], .int .u8 ((rd_T42 l0 x5_1).f2)] rfl (by (try simp only [List.map_toArray, List.map_cons, List.map_nil]); first | done | rfl | (simp only [List.length_drop, List.length_take]; rfl)) ?_; (with_reducible refine (marqueeref05_Choice_Lock.calls kj13 x303000_1 x303001_1 x303002_1 x303003_1 x303004_1 x303005_1 ((rd_T42 l0 x5_1).f2) t327 t328 t329 t330 t331 t332 t333 _ A32.out).mono ?_); rintro e w42 ⟨rfl, hb⟩; refine ⟨_, rfl, ?_⟩; have n0_ := Aside0.mk (blk_below (g := gb301) (o := .cells #[.int .u8 t320, .int .u8 t321, .int .u8 t322, .int .u8 t323, .int .u8 t324, .int .u8 t325] 32 (0, 0)) (by (with_reducible repeat (first | refine blk_drewN ?_ _ | refine blk_drew ?_ | refine blk_alloc ?_ _)); refine blk_put (cs := #[.int .u8 t320, .int .u8 t321, .int .u8 t322, .int .u8 t323, .int .u8 t324, .int .u8 x302005_1]) ?_ 5 _ rfl; (with_reducible repeat (first | refine blk_drewN ?_ _ | refine blk_drew ?_ | refine blk_alloc ?_ _)); refine blk_put (cs := #[.int .u8 t320, .int .u8 t321, .int .u8 t322, .int .u8 t323, .int .u8 x302004_1, .int .u8 x302005_1]) ?_ 4 _ rfl; (with_reducible repeat (first | refine blk_drewN ?_ _ | refine blk_drew ?_ | refine blk_alloc ?_ _)); refine blk_put (cs := #[.int .u8 t320, .int .u8 t321, .int .u8 t322, .int .u8 x302003_1, .int .u8 x302004_1, .int .u8 x302005_1]) ?_ 3 _ rfl; (with_reducible repeat (first | refine blk_drewN ?_ _ | refine blk_drew ?_ | refine blk_alloc ?_ _)); refine blk_put (cs := #[.int .u8 t320, .int .u8 t321, .int .u8 x302002_1, .int .u8 x302003_1, .int .u8 x302004_1, .int .u8 x302005_1]) ?_ 2 _ rfl; (with_reducible repeat (first | refine blk_drewN ?_ _ | refine blk_drew ?_ | refine blk_alloc ?_ _)); refine blk_put (cs := #[.int .u8 t320, .int .u8 x302001_1, .int .u8 x302002_1, .int .u8 x302003_1, .int .u8 x302004_1, .int .u8 x302005_1]) ?_ 1 _ rfl; (with_reducible repeat (first | refine blk_drewN ?_ _ | refine blk_drew ?_ | refine blk_alloc ?_ _)); refine blk_put (cs := #[.int .u8 x302000_1, .int .u8 x302001_1, .int .u8 x302002_1, .int .u8 x302003_1, .int .u8 x302004_1, .int .u8 x302005_1]) ?_ 0 _ rfl; (with_reducible repeat (first | refine blk_drewN ?_ _ | refine blk_drew ?_ | refine blk_alloc ?_ _)); exact BK301.out) hb); have n1_ := Aside0.mk (blk_below (g := gb302) (o := .cells #[.int .i64 x303000_1, .int .i64 x303001_1, .int .i64 x303002_1, .int .i64 x303003_1, .int .i64 x303004_1, .int .i64 x303005_1] 39 (0, 0)) (by (with_reducible repeat (first | refine blk_drewN ?_ _ | refine blk_drew ?_ | refine blk_alloc ?_ _)); refine blk_far ?_ NB302_301.out _; (with_reducible repeat (first | refine blk_drewN ?_ _ | refine blk_drew ?_ | refine blk_alloc ?_ _)); refine blk_far ?_ NB302_301.out _; (with_reducible repeat (first | refine blk_drewN ?_ _ | refine blk_drew ?_ | refine blk_alloc ?_ _)); refine blk_far ?_ NB302_301.out _; (with_reducible repeat (first | refine blk_drewN ?_ _ | refine blk_drew ?_ | refine blk_alloc ?_ _)); refine blk_far ?_ NB302_301.out _; (with_reducible repeat (first | refine blk_drewN ?_ _ | refine blk_drew ?_ | refine blk_alloc ?_ _)); refine blk_far ?_ NB302_301.out _; (with_reducible repeat (first | refine blk_drewN ?_ _ | refine blk_drew ?_ | refine blk_alloc ?_ _)); refine blk_far ?_ NB302_301.out _; (with_reducible repeat (first | refine blk_drewN ?_ _ | refine blk_drew ?_ | refine blk_alloc ?_ _)); exact BK302.out) hb); have n2_ := Aside0.mk (blk_below (g := gb305) (o := .cells #[.int .u8 ((rd_T42 l0 x5_1).f0), .int .i8 ((rd_T42 l0 x5_1).f1), .int .u8 ((rd_T42 l0 x5_1).f2), .int .i32 ((rd_T42 l0 x5_1).f3)] 42 (0, 0)) (by (with_reducible repeat (first | refine blk_drewN ?_ _ | refine blk_drew ?_ | refine blk_alloc ?_ _)); refine blk_far ?_ NB305_301.out _; (with_reducible repeat (first | refine blk_drewN ?_ _ | refine blk_drew ?_ | refine blk_alloc ?_ _)); refine blk_far ?_ NB305_301.out _; (with_reducible repeat (first | refine blk_drewN ?_ _ | refine blk_drew ?_ | refine blk_alloc ?_ _)); refine blk_far ?_ NB305_301.out _; (with_reducible repeat (first | refine blk_drewN ?_ _ | refine blk_drew ?_ | refine blk_alloc ?_ _)); refine blk_far ?_ NB305_301.out _; (with_reducible repeat (first | refine blk_drewN ?_ _ | refine blk_drew ?_ | refine blk_alloc ?_ _)); refine blk_far ?_ NB305_301.out _; (with_reducible repeat (first | refine blk_drewN ?_ _ | refine blk_drew ?_ | refine blk_alloc ?_ _)); refine blk_far ?_ NB305_301.out _; (with_reducible repeat (first | refine blk_drewN ?_ _ | refine blk_drew ?_ | refine blk_alloc ?_ _)); exact BK305.out) hb); have n3_ := Aside0.mk (below_step (by repeat (first | (with_reducible first | exact HB.out | apply below_alloc | apply pw_below_drewN | apply below_drew1 | refine below_set ?_ GE301.out | refine below_set ?_ GE302.out | refine below_set ?_ GE305.out) | exact HB.out)) hb); clear BK301; clear BK302; clear BK305; clear HB; have BK301 := n0_; have BK302 := n1_; have BK305 := n2_; have HB := n3_; clear n0_ n1_ n2_ n3_; (try clear hb); (try clear hb2); (try clear hk); (try clear hi); have hcz43_0 : w42.cell? ⟨gb302, 0, none⟩ = some (.int .i64 x303000_1) := (blk_cell BK302.out 0).trans rfl; have hcz43_1 : w42.cell? ⟨gb302, 1, none⟩ = some (.int .i64 x303001_1) := (blk_cell BK302.out 1).trans rfl; have hcz43_2 : w42.cell? ⟨gb302, 2, none⟩ = some (.int .i64 x303002_1) := (blk_cell BK302.out 2).trans rfl; have hcz43_3 : w42.cell? ⟨gb302, 3, none⟩ = some (.int .i64 x303003_1) := (blk_cell BK302.out 3).trans rfl; have hcz43_4 : w42.cell? ⟨gb302, 4, none⟩ = some (.int .i64 x303004_1) := (blk_cell BK302.out 4).trans rfl; have hcz43_5 : w42.cell? ⟨gb302, 5, none⟩ = some (.int .i64 x303005_1) := (blk_cell BK302.out 5).trans rfl; have hfz43_0 := blk_frozen BK302.out 0; have hfz43_1 := blk_frozen BK302.out 1; have hfz43_2 := blk_frozen BK302.out 2; have hfz43_3 := blk_frozen BK302.out 3; have hfz43_4 := blk_frozen BK302.out 4; have hfz43_5 := blk_frozen BK302.out 5))
                          go_meet
                          case rel => exact ⟨_, (t326), (t333), (t320), (t321), (t322), (t323), (t324), (t325), (t327), (t328), (t329), (t330), (t331), (t332), (by first | rfl | (simp; done) | (simp [*]; done)), (by first | rfl | (simp; done) | (simp [*]; done)), H', ⟨by have := HK1.out; have := HJ3.out; have := HJ13.out; first | omega | exact Nat.le_refl _⟩, ⟨by (with_reducible repeat (first | refine blk_drewN ?_ _ | refine blk_drew ?_ | refine blk_alloc ?_ _)); refine blk_far ?_ NB301_302.out _; (with_reducible repeat (first | refine blk_drewN ?_ _ | refine blk_drew ?_ | refine blk_alloc ?_ _)); refine blk_far ?_ NB301_302.out _; (with_reducible repeat (first | refine blk_drewN ?_ _ | refine blk_drew ?_ | refine blk_alloc ?_ _)); refine blk_far ?_ NB301_302.out _; (with_reducible repeat (first | refine blk_drewN ?_ _ | refine blk_drew ?_ | refine blk_alloc ?_ _)); refine blk_far ?_ NB301_302.out _; (with_reducible repeat (first | refine blk_drewN ?_ _ | refine blk_drew ?_ | refine blk_alloc ?_ _)); refine blk_far ?_ NB301_302.out _; (with_reducible repeat (first | refine blk_drewN ?_ _ | refine blk_drew ?_ | refine blk_alloc ?_ _)); refine blk_far ?_ NB301_302.out _; (with_reducible repeat (first | refine blk_drewN ?_ _ | refine blk_drew ?_ | refine blk_alloc ?_ _)); exact BK301.out⟩, ⟨by (with_reducible repeat (first | refine blk_drewN ?_ _ | refine blk_drew ?_ | refine blk_alloc ?_ _)); refine blk_put (cs := #[.int .i64 t327, .int .i64 t328, .int .i64 t329, .int .i64 t330, .int .i64 t331, .int .i64 x303005_1]) ?_ 5 _ rfl; (with_reducible repeat (first | refine blk_drewN ?_ _ | refine blk_drew ?_ | refine blk_alloc ?_ _)); refine blk_put (cs := #[.int .i64 t327, .int .i64 t328, .int .i64 t329, .int .i64 t330, .int .i64 x303004_1, .int .i64 x303005_1]) ?_ 4 _ rfl; (with_reducible repeat (first | refine blk_drewN ?_ _ | refine blk_drew ?_ | refine blk_alloc ?_ _)); refine blk_put (cs := #[.int .i64 t327, .int .i64 t328, .int .i64 t329, .int .i64 x303003_1, .int .i64 x303004_1, .int .i64 x303005_1]) ?_ 3 _ rfl; (with_reducible repeat (first | refine blk_drewN ?_ _ | refine blk_drew ?_ | refine blk_alloc ?_ _)); refine blk_put (cs := #[.int .i64 t327, .int .i64 t328, .int .i64 x303002_1, .int .i64 x303003_1, .int .i64 x303004_1, .int .i64 x303005_1]) ?_ 2 _ rfl; (with_reducible repeat (first | refine blk_drewN ?_ _ | refine blk_drew ?_ | refine blk_alloc ?_ _)); refine blk_put (cs := #[.int .i64 t327, .int .i64 x303001_1, .int .i64 x303002_1, .int .i64 x303003_1, .int .i64 x303004_1, .int .i64 x303005_1]) ?_ 1 _ rfl; (with_reducible repeat (first | refine blk_drewN ?_ _ | refine blk_drew ?_ | refine blk_alloc ?_ _)); refine blk_put (cs := #[.int .i64 x303000_1, .int .i64 x303001_1, .int .i64 x303002_1, .int .i64 x303003_1, .int .i64 x303004_1, .int .i64 x303005_1]) ?_ 0 _ rfl; (with_reducible repeat (first | refine blk_drewN ?_ _ | refine blk_drew ?_ | refine blk_alloc ?_ _)); exact BK302.out⟩, ⟨by (with_reducible repeat (first | refine blk_drewN ?_ _ | refine blk_drew ?_ | refine blk_alloc ?_ _)); refine blk_far ?_ NB305_302.out _; (with_reducible repeat (first | refine blk_drewN ?_ _ | refine blk_drew ?_ | refine blk_alloc ?_ _)); refine blk_far ?_ NB305_302.out _; (with_reducible repeat (first | refine blk_drewN ?_ _ | refine blk_drew ?_ | refine blk_alloc ?_ _)); refine blk_far ?_ NB305_302.out _; (with_reducible repeat (first | refine blk_drewN ?_ _ | refine blk_drew ?_ | refine blk_alloc ?_ _)); refine blk_far ?_ NB305_302.out _; (with_reducible repeat (first | refine blk_drewN ?_ _ | refine blk_drew ?_ | refine blk_alloc ?_ _)); refine blk_far ?_ NB305_302.out _; (with_reducible repeat (first | refine blk_drewN ?_ _ | refine blk_drew ?_ | refine blk_alloc ?_ _)); refine blk_far ?_ NB305_302.out _; (with_reducible repeat (first | refine blk_drewN ?_ _ | refine blk_drew ?_ | refine blk_alloc ?_ _)); exact BK305.out⟩, ⟨by repeat (first | (with_reducible first | exact HB.out | apply below_alloc | apply pw_below_drewN | apply below_drew1 | refine below_set ?_ GE301.out | refine below_set ?_ GE302.out | refine below_set ?_ GE305.out) | exact HB.out)⟩⟩
                        · rw [if_neg c30] at H
                          have c30b0 : ((Int.tmod ((rd_T42 l0 x5_1).f0) 8) == 2) = false := beq_eq_false_iff_ne.mpr c30
                          have c30b1 : ((Int.tmod ((rd_T42 l0 x5_1).f0) 8) != 2) = true := bne_iff_ne.mpr c30
                          by_cases c44 : (Int.tmod ((rd_T42 l0 x5_1).f0) 8) = 3
                          · rw [if_pos c44] at H
                            have c44b0 : ((Int.tmod ((rd_T42 l0 x5_1).f0) 8) == 3) = true := beq_iff_eq.mpr c44
                            have c44b1 : ((Int.tmod ((rd_T42 l0 x5_1).f0) 8) != 3) = false := bne_eq_false_iff_eq.mpr c44
                            clear c44
                            replace H := Option.bind_eq_some_iff.mp H
                            obtain ⟨⟨t334, t335, t336, t337, t338, t339, t340⟩, A450, H⟩ := H
                            replace H : ((marqueeref05_Choice_Single.f x303000_1 x303001_1 x303002_1 x303003_1 x303004_1 x303005_1 (wrap64 (((rd_T42 l0 x5_1).f1)))).bind fun bt341 => (marqueelaw05_CharsetPlays.j3 kj13 l0 x5_1 t340 bt341.2.2.2.2.2.2 t334 t335 t336 t337 t338 t339 bt341.1 bt341.2.1 bt341.2.2.1 bt341.2.2.2.1 bt341.2.2.2.2.1 bt341.2.2.2.2.2.1)) = some r := H
                            have A45 := Aside0.mk A450
                            clear A450
                            replace H := Option.bind_eq_some_iff.mp H
                            obtain ⟨⟨t341, t342, t343, t344, t345, t346, t347⟩, A460, H⟩ := H
                            replace H : (marqueelaw05_CharsetPlays.j3 kj13 l0 x5_1 t340 t347 t334 t335 t336 t337 t338 t339 t341 t342 t343 t344 t345 t346) = some r := H
                            have A46 := Aside0.mk A460
                            clear A460
                            have H' := Aside0.mk H
                            clear H
                            have hnb47 := NB301_302.out
                            have hnc47 := NB302_301.out
                            have hnb48 := NB301_305.out
                            have hnc48 := NB305_301.out
                            have hcz49_0 : wc.cell? ⟨gb301, 0, none⟩ = some (.int .u8 x302000_1) := (blk_cell BK301.out 0).trans rfl
                            have hcz49_1 : wc.cell? ⟨gb301, 1, none⟩ = some (.int .u8 x302001_1) := (blk_cell BK301.out 1).trans rfl
                            have hcz49_2 : wc.cell? ⟨gb301, 2, none⟩ = some (.int .u8 x302002_1) := (blk_cell BK301.out 2).trans rfl
                            have hcz49_3 : wc.cell? ⟨gb301, 3, none⟩ = some (.int .u8 x302003_1) := (blk_cell BK301.out 3).trans rfl
                            have hcz49_4 : wc.cell? ⟨gb301, 4, none⟩ = some (.int .u8 x302004_1) := (blk_cell BK301.out 4).trans rfl
                            have hcz49_5 : wc.cell? ⟨gb301, 5, none⟩ = some (.int .u8 x302005_1) := (blk_cell BK301.out 5).trans rfl
                            have hfz49_0 := blk_frozen BK301.out 0
                            have hfz49_1 := blk_frozen BK301.out 1
                            have hfz49_2 := blk_frozen BK301.out 2
                            have hfz49_3 := blk_frozen BK301.out 3
                            have hfz49_4 := blk_frozen BK301.out 4
                            have hfz49_5 := blk_frozen BK301.out 5
                            have hnb50 := NB305_302.out
                            have hnc50 := NB302_305.out
                            have hcz51_0 : wc.cell? ⟨gb305, 0, none⟩ = some (.int .u8 ((rd_T42 l0 x5_1).f0)) := (blk_cell BK305.out 0).trans rfl
                            have hcz51_1 : wc.cell? ⟨gb305, 1, none⟩ = some (.int .i8 ((rd_T42 l0 x5_1).f1)) := (blk_cell BK305.out 1).trans rfl
                            have hcz51_2 : wc.cell? ⟨gb305, 2, none⟩ = some (.int .u8 ((rd_T42 l0 x5_1).f2)) := (blk_cell BK305.out 2).trans rfl
                            have hcz51_3 : wc.cell? ⟨gb305, 3, none⟩ = some (.int .i32 ((rd_T42 l0 x5_1).f3)) := (blk_cell BK305.out 3).trans rfl
                            have hfz51_0 := blk_frozen BK305.out 0
                            have hfz51_1 := blk_frozen BK305.out 1
                            have hfz51_2 := blk_frozen BK305.out 2
                            have hfz51_3 := blk_frozen BK305.out 3
                            go_wp2_with (first | ((with_reducible refine gate_callee (f := 18) rfl ?_); refine goesL_ (some 95) rfl rfl Try.func18 (by kernel_rfl) rfl #[.agg #[.int .u8 x302000_1, .int .u8 x302001_1, .int .u8 x302002_1, .int .u8 x302003_1, .int .u8 x302004_1, .int .u8 x302005_1], .int .i64 (wrap64 (((rd_T42 l0 x5_1).f1)))] rfl (by (try simp only [List.map_toArray, List.map_cons, List.map_nil]); first | done | rfl | (simp only [List.length_drop, List.length_take]; rfl)) ?_; (with_reducible refine (charset_Choice_Single.calls x302000_1 x302001_1 x302002_1 x302003_1 x302004_1 x302005_1 (wrap64 (((rd_T42 l0 x5_1).f1))) t334 t335 t336 t337 t338 t339 t340 _ A45.out).mono ?_); rintro e w52 ⟨rfl, hb⟩; refine ⟨_, rfl, ?_⟩; have n0_ := Aside0.mk (blk_below (g := gb301) (o := .cells #[.int .u8 x302000_1, .int .u8 x302001_1, .int .u8 x302002_1, .int .u8 x302003_1, .int .u8 x302004_1, .int .u8 x302005_1] 32 (0, 0)) (by (with_reducible repeat (first | refine blk_drewN ?_ _ | refine blk_drew ?_ | refine blk_alloc ?_ _)); exact BK301.out) hb); have n1_ := Aside0.mk (blk_below (g := gb302) (o := .cells #[.int .i64 x303000_1, .int .i64 x303001_1, .int .i64 x303002_1, .int .i64 x303003_1, .int .i64 x303004_1, .int .i64 x303005_1] 39 (0, 0)) (by (with_reducible repeat (first | refine blk_drewN ?_ _ | refine blk_drew ?_ | refine blk_alloc ?_ _)); exact BK302.out) hb); have n2_ := Aside0.mk (blk_below (g := gb305) (o := .cells #[.int .u8 ((rd_T42 l0 x5_1).f0), .int .i8 ((rd_T42 l0 x5_1).f1), .int .u8 ((rd_T42 l0 x5_1).f2), .int .i32 ((rd_T42 l0 x5_1).f3)] 42 (0, 0)) (by (with_reducible repeat (first | refine blk_drewN ?_ _ | refine blk_drew ?_ | refine blk_alloc ?_ _)); exact BK305.out) hb); have n3_ := Aside0.mk (below_step (by repeat (first | (with_reducible first | exact HB.out | apply below_alloc | apply pw_below_drewN | apply below_drew1 | refine below_set ?_ GE301.out | refine below_set ?_ GE302.out | refine below_set ?_ GE305.out) | exact HB.out)) hb); clear BK301; clear BK302; clear BK305; clear HB; have BK301 := n0_; have BK302 := n1_; have BK305 := n2_; have HB := n3_; clear n0_ n1_ n2_ n3_; (try clear hb); (try clear hb2); (try clear hk); (try clear hi); have hcz53_0 : w52.cell? ⟨gb301, 0, none⟩ = some (.int .u8 x302000_1) := (blk_cell BK301.out 0).trans rfl; have hcz53_1 : w52.cell? ⟨gb301, 1, none⟩ = some (.int .u8 x302001_1) := (blk_cell BK301.out 1).trans rfl; have hcz53_2 : w52.cell? ⟨gb301, 2, none⟩ = some (.int .u8 x302002_1) := (blk_cell BK301.out 2).trans rfl; have hcz53_3 : w52.cell? ⟨gb301, 3, none⟩ = some (.int .u8 x302003_1) := (blk_cell BK301.out 3).trans rfl; have hcz53_4 : w52.cell? ⟨gb301, 4, none⟩ = some (.int .u8 x302004_1) := (blk_cell BK301.out 4).trans rfl; have hcz53_5 : w52.cell? ⟨gb301, 5, none⟩ = some (.int .u8 x302005_1) := (blk_cell BK301.out 5).trans rfl; have hfz53_0 := blk_frozen BK301.out 0; have hfz53_1 := blk_frozen BK301.out 1; have hfz53_2 := blk_frozen BK301.out 2; have hfz53_3 := blk_frozen BK301.out 3; have hfz53_4 := blk_frozen BK301.out 4; have hfz53_5 := blk_frozen BK301.out 5; have hcz54_0 : w52.cell? ⟨gb302, 0, none⟩ = some (.int .i64 x303000_1) := (blk_cell BK302.out 0).trans rfl; have hcz54_1 : w52.cell? ⟨gb302, 1, none⟩ = some (.int .i64 x303001_1) := (blk_cell BK302.out 1).trans rfl; have hcz54_2 : w52.cell? ⟨gb302, 2, none⟩ = some (.int .i64 x303002_1) := (blk_cell BK302.out 2).trans rfl; have hcz54_3 : w52.cell? ⟨gb302, 3, none⟩ = some (.int .i64 x303003_1) := (blk_cell BK302.out 3).trans rfl; have hcz54_4 : w52.cell? ⟨gb302, 4, none⟩ = some (.int .i64 x303004_1) := (blk_cell BK302.out 4).trans rfl; have hcz54_5 : w52.cell? ⟨gb302, 5, none⟩ = some (.int .i64 x303005_1) := (blk_cell BK302.out 5).trans rfl; have hfz54_0 := blk_frozen BK302.out 0; have hfz54_1 := blk_frozen BK302.out 1; have hfz54_2 := blk_frozen BK302.out 2; have hfz54_3 := blk_frozen BK302.out 3; have hfz54_4 := blk_frozen BK302.out 4; have hfz54_5 := blk_frozen BK302.out 5; have hcz55_0 : w52.cell? ⟨gb305, 0, none⟩ = some (.int .u8 ((rd_T42 l0 x5_1).f0)) := (blk_cell BK305.out 0).trans rfl; have hcz55_1 : w52.cell? ⟨gb305, 1, none⟩ = some (.int .i8 ((rd_T42 l0 x5_1).f1)) := (blk_cell BK305.out 1).trans rfl; have hcz55_2 : w52.cell? ⟨gb305, 2, none⟩ = some (.int .u8 ((rd_T42 l0 x5_1).f2)) := (blk_cell BK305.out 2).trans rfl; have hcz55_3 : w52.cell? ⟨gb305, 3, none⟩ = some (.int .i32 ((rd_T42 l0 x5_1).f3)) := (blk_cell BK305.out 3).trans rfl; have hfz55_0 := blk_frozen BK305.out 0; have hfz55_1 := blk_frozen BK305.out 1; have hfz55_2 := blk_frozen BK305.out 2; have hfz55_3 := blk_frozen BK305.out 3) | ((with_reducible refine gate_callee (f := 19) rfl ?_); refine goesL_ (some 103) rfl rfl Try.func19 (by kernel_rfl) rfl #[.agg #[.int .i64 x303000_1, .int .i64 x303001_1, .int .i64 x303002_1, .int .i64 x303003_1, .int .i64 x303004_1, .int .i64 x303005_1], .int .i64 (wrap64 (((rd_T42 l0 x5_1).f1)))] rfl (by (try simp only [List.map_toArray, List.map_cons, List.map_nil]); first | done | rfl | (simp only [List.length_drop, List.length_take]; rfl)) ?_; (with_reducible refine (marqueeref05_Choice_Single.calls x303000_1 x303001_1 x303002_1 x303003_1 x303004_1 x303005_1 (wrap64 (((rd_T42 l0 x5_1).f1))) t341 t342 t343 t344 t345 t346 t347 _ A46.out).mono ?_); rintro e w56 ⟨rfl, hb⟩; refine ⟨_, rfl, ?_⟩; have n0_ := Aside0.mk (blk_below (g := gb301) (o := .cells #[.int .u8 t334, .int .u8 t335, .int .u8 t336, .int .u8 t337, .int .u8 t338, .int .u8 t339] 32 (0, 0)) (by (with_reducible repeat (first | refine blk_drewN ?_ _ | refine blk_drew ?_ | refine blk_alloc ?_ _)); refine blk_put (cs := #[.int .u8 t334, .int .u8 t335, .int .u8 t336, .int .u8 t337, .int .u8 t338, .int .u8 x302005_1]) ?_ 5 _ rfl; (with_reducible repeat (first | refine blk_drewN ?_ _ | refine blk_drew ?_ | refine blk_alloc ?_ _)); refine blk_put (cs := #[.int .u8 t334, .int .u8 t335, .int .u8 t336, .int .u8 t337, .int .u8 x302004_1, .int .u8 x302005_1]) ?_ 4 _ rfl; (with_reducible repeat (first | refine blk_drewN ?_ _ | refine blk_drew ?_ | refine blk_alloc ?_ _)); refine blk_put (cs := #[.int .u8 t334, .int .u8 t335, .int .u8 t336, .int .u8 x302003_1, .int .u8 x302004_1, .int .u8 x302005_1]) ?_ 3 _ rfl; (with_reducible repeat (first | refine blk_drewN ?_ _ | refine blk_drew ?_ | refine blk_alloc ?_ _)); refine blk_put (cs := #[.int .u8 t334, .int .u8 t335, .int .u8 x302002_1, .int .u8 x302003_1, .int .u8 x302004_1, .int .u8 x302005_1]) ?_ 2 _ rfl; (with_reducible repeat (first | refine blk_drewN ?_ _ | refine blk_drew ?_ | refine blk_alloc ?_ _)); refine blk_put (cs := #[.int .u8 t334, .int .u8 x302001_1, .int .u8 x302002_1, .int .u8 x302003_1, .int .u8 x302004_1, .int .u8 x302005_1]) ?_ 1 _ rfl; (with_reducible repeat (first | refine blk_drewN ?_ _ | refine blk_drew ?_ | refine blk_alloc ?_ _)); refine blk_put (cs := #[.int .u8 x302000_1, .int .u8 x302001_1, .int .u8 x302002_1, .int .u8 x302003_1, .int .u8 x302004_1, .int .u8 x302005_1]) ?_ 0 _ rfl; (with_reducible repeat (first | refine blk_drewN ?_ _ | refine blk_drew ?_ | refine blk_alloc ?_ _)); exact BK301.out) hb); have n1_ := Aside0.mk (blk_below (g := gb302) (o := .cells #[.int .i64 x303000_1, .int .i64 x303001_1, .int .i64 x303002_1, .int .i64 x303003_1, .int .i64 x303004_1, .int .i64 x303005_1] 39 (0, 0)) (by (with_reducible repeat (first | refine blk_drewN ?_ _ | refine blk_drew ?_ | refine blk_alloc ?_ _)); refine blk_far ?_ NB302_301.out _; (with_reducible repeat (first | refine blk_drewN ?_ _ | refine blk_drew ?_ | refine blk_alloc ?_ _)); refine blk_far ?_ NB302_301.out _; (with_reducible repeat (first | refine blk_drewN ?_ _ | refine blk_drew ?_ | refine blk_alloc ?_ _)); refine blk_far ?_ NB302_301.out _; (with_reducible repeat (first | refine blk_drewN ?_ _ | refine blk_drew ?_ | refine blk_alloc ?_ _)); refine blk_far ?_ NB302_301.out _; (with_reducible repeat (first | refine blk_drewN ?_ _ | refine blk_drew ?_ | refine blk_alloc ?_ _)); refine blk_far ?_ NB302_301.out _; (with_reducible repeat (first | refine blk_drewN ?_ _ | refine blk_drew ?_ | refine blk_alloc ?_ _)); refine blk_far ?_ NB302_301.out _; (with_reducible repeat (first | refine blk_drewN ?_ _ | refine blk_drew ?_ | refine blk_alloc ?_ _)); exact BK302.out) hb); have n2_ := Aside0.mk (blk_below (g := gb305) (o := .cells #[.int .u8 ((rd_T42 l0 x5_1).f0), .int .i8 ((rd_T42 l0 x5_1).f1), .int .u8 ((rd_T42 l0 x5_1).f2), .int .i32 ((rd_T42 l0 x5_1).f3)] 42 (0, 0)) (by (with_reducible repeat (first | refine blk_drewN ?_ _ | refine blk_drew ?_ | refine blk_alloc ?_ _)); refine blk_far ?_ NB305_301.out _; (with_reducible repeat (first | refine blk_drewN ?_ _ | refine blk_drew ?_ | refine blk_alloc ?_ _)); refine blk_far ?_ NB305_301.out _; (with_reducible repeat (first | refine blk_drewN ?_ _ | refine blk_drew ?_ | refine blk_alloc ?_ _)); refine blk_far ?_ NB305_301.out _; (with_reducible repeat (first | refine blk_drewN ?_ _ | refine blk_drew ?_ | refine blk_alloc ?_ _)); refine blk_far ?_ NB305_301.out _; (with_reducible repeat (first | refine blk_drewN ?_ _ | refine blk_drew ?_ | refine blk_alloc ?_ _)); refine blk_far ?_ NB305_301.out _; (with_reducible repeat (first | refine blk_drewN ?_ _ | refine blk_drew ?_ | refine blk_alloc ?_ _)); refine blk_far ?_ NB305_301.out _; (with_reducible repeat (first | refine blk_drewN ?_ _ | refine blk_drew ?_ | refine blk_alloc ?_ _)); exact BK305.out) hb); have n3_ := Aside0.mk (below_step (by repeat (first | (with_reducible first | exact HB.out | apply below_alloc | apply pw_below_drewN | apply below_drew1 | refine below_set ?_ GE301.out | refine below_set ?_ GE302.out | refine below_set ?_ GE305.out) | exact HB.out)) hb); clear BK301; clear BK302; clear BK305; clear HB; have BK301 := n0_; have BK302 := n1_; have BK305 := n2_; have HB := n3_; clear n0_ n1_ n2_ n3_; (try clear hb); (try clear hb2); (try clear hk); (try clear hi); have hcz57_0 : w56.cell? ⟨gb302, 0, none⟩ = some (.int .i64 x303000_1) := (blk_cell BK302.out 0).trans rfl; have hcz57_1 : w56.cell? ⟨gb302, 1, none⟩ = some (.int .i64 x303001_1) := (blk_cell BK302.out 1).trans rfl; have hcz57_2 : w56.cell? ⟨gb302, 2, none⟩ = some (.int .i64 x303002_1) := (blk_cell BK302.out 2).trans rfl; have hcz57_3 : w56.cell? ⟨gb302, 3, none⟩ = some (.int .i64 x303003_1) := (blk_cell BK302.out 3).trans rfl; have hcz57_4 : w56.cell? ⟨gb302, 4, none⟩ = some (.int .i64 x303004_1) := (blk_cell BK302.out 4).trans rfl; have hcz57_5 : w56.cell? ⟨gb302, 5, none⟩ = some (.int .i64 x303005_1) := (blk_cell BK302.out 5).trans rfl; have hfz57_0 := blk_frozen BK302.out 0; have hfz57_1 := blk_frozen BK302.out 1; have hfz57_2 := blk_frozen BK302.out 2; have hfz57_3 := blk_frozen BK302.out 3; have hfz57_4 := blk_frozen BK302.out 4; have hfz57_5 := blk_frozen BK302.out 5))
                            go_meet
                            case rel => exact ⟨_, (t340), (t347), (t334), (t335), (t336), (t337), (t338), (t339), (t341), (t342), (t343), (t344), (t345), (t346), (by first | rfl | (simp; done) | (simp [*]; done)), (by first | rfl | (simp; done) | (simp [*]; done)), H', ⟨by have := HK1.out; have := HJ3.out; have := HJ13.out; first | omega | exact Nat.le_refl _⟩, ⟨by (with_reducible repeat (first | refine blk_drewN ?_ _ | refine blk_drew ?_ | refine blk_alloc ?_ _)); refine blk_far ?_ NB301_302.out _; (with_reducible repeat (first | refine blk_drewN ?_ _ | refine blk_drew ?_ | refine blk_alloc ?_ _)); refine blk_far ?_ NB301_302.out _; (with_reducible repeat (first | refine blk_drewN ?_ _ | refine blk_drew ?_ | refine blk_alloc ?_ _)); refine blk_far ?_ NB301_302.out _; (with_reducible repeat (first | refine blk_drewN ?_ _ | refine blk_drew ?_ | refine blk_alloc ?_ _)); refine blk_far ?_ NB301_302.out _; (with_reducible repeat (first | refine blk_drewN ?_ _ | refine blk_drew ?_ | refine blk_alloc ?_ _)); refine blk_far ?_ NB301_302.out _; (with_reducible repeat (first | refine blk_drewN ?_ _ | refine blk_drew ?_ | refine blk_alloc ?_ _)); refine blk_far ?_ NB301_302.out _; (with_reducible repeat (first | refine blk_drewN ?_ _ | refine blk_drew ?_ | refine blk_alloc ?_ _)); exact BK301.out⟩, ⟨by (with_reducible repeat (first | refine blk_drewN ?_ _ | refine blk_drew ?_ | refine blk_alloc ?_ _)); refine blk_put (cs := #[.int .i64 t341, .int .i64 t342, .int .i64 t343, .int .i64 t344, .int .i64 t345, .int .i64 x303005_1]) ?_ 5 _ rfl; (with_reducible repeat (first | refine blk_drewN ?_ _ | refine blk_drew ?_ | refine blk_alloc ?_ _)); refine blk_put (cs := #[.int .i64 t341, .int .i64 t342, .int .i64 t343, .int .i64 t344, .int .i64 x303004_1, .int .i64 x303005_1]) ?_ 4 _ rfl; (with_reducible repeat (first | refine blk_drewN ?_ _ | refine blk_drew ?_ | refine blk_alloc ?_ _)); refine blk_put (cs := #[.int .i64 t341, .int .i64 t342, .int .i64 t343, .int .i64 x303003_1, .int .i64 x303004_1, .int .i64 x303005_1]) ?_ 3 _ rfl; (with_reducible repeat (first | refine blk_drewN ?_ _ | refine blk_drew ?_ | refine blk_alloc ?_ _)); refine blk_put (cs := #[.int .i64 t341, .int .i64 t342, .int .i64 x303002_1, .int .i64 x303003_1, .int .i64 x303004_1, .int .i64 x303005_1]) ?_ 2 _ rfl; (with_reducible repeat (first | refine blk_drewN ?_ _ | refine blk_drew ?_ | refine blk_alloc ?_ _)); refine blk_put (cs := #[.int .i64 t341, .int .i64 x303001_1, .int .i64 x303002_1, .int .i64 x303003_1, .int .i64 x303004_1, .int .i64 x303005_1]) ?_ 1 _ rfl; (with_reducible repeat (first | refine blk_drewN ?_ _ | refine blk_drew ?_ | refine blk_alloc ?_ _)); refine blk_put (cs := #[.int .i64 x303000_1, .int .i64 x303001_1, .int .i64 x303002_1, .int .i64 x303003_1, .int .i64 x303004_1, .int .i64 x303005_1]) ?_ 0 _ rfl; (with_reducible repeat (first | refine blk_drewN ?_ _ | refine blk_drew ?_ | refine blk_alloc ?_ _)); exact BK302.out⟩, ⟨by (with_reducible repeat (first | refine blk_drewN ?_ _ | refine blk_drew ?_ | refine blk_alloc ?_ _)); refine blk_far ?_ NB305_302.out _; (with_reducible repeat (first | refine blk_drewN ?_ _ | refine blk_drew ?_ | refine blk_alloc ?_ _)); refine blk_far ?_ NB305_302.out _; (with_reducible repeat (first | refine blk_drewN ?_ _ | refine blk_drew ?_ | refine blk_alloc ?_ _)); refine blk_far ?_ NB305_302.out _; (with_reducible repeat (first | refine blk_drewN ?_ _ | refine blk_drew ?_ | refine blk_alloc ?_ _)); refine blk_far ?_ NB305_302.out _; (with_reducible repeat (first | refine blk_drewN ?_ _ | refine blk_drew ?_ | refine blk_alloc ?_ _)); refine blk_far ?_ NB305_302.out _; (with_reducible repeat (first | refine blk_drewN ?_ _ | refine blk_drew ?_ | refine blk_alloc ?_ _)); refine blk_far ?_ NB305_302.out _; (with_reducible repeat (first | refine blk_drewN ?_ _ | refine blk_drew ?_ | refine blk_alloc ?_ _)); exact BK305.out⟩, ⟨by repeat (first | (with_reducible first | exact HB.out | apply below_alloc | apply pw_below_drewN | apply below_drew1 | refine below_set ?_ GE301.out | refine below_set ?_ GE302.out | refine below_set ?_ GE305.out) | exact HB.out)⟩⟩
                          · rw [if_neg c44] at H
                            have c44b0 : ((Int.tmod ((rd_T42 l0 x5_1).f0) 8) == 3) = false := beq_eq_false_iff_ne.mpr c44
                            have c44b1 : ((Int.tmod ((rd_T42 l0 x5_1).f0) 8) != 3) = true := bne_iff_ne.mpr c44
                            replace H := Option.bind_eq_some_iff.mp H
                            obtain ⟨⟨t348, t349, t350, t351, t352, t353, t354⟩, A580, H⟩ := H
                            replace H : ((marqueeref05_Choice_Map.f kj13 x303000_1 x303001_1 x303002_1 x303003_1 x303004_1 x303005_1 ((rd_T42 l0 x5_1).f3)).bind fun bt356 => (marqueelaw05_CharsetPlays.j3 kj13 l0 x5_1 (t354 == bt356.2.2.2.2.2.2) true t348 t349 t350 t351 t352 t353 bt356.1 bt356.2.1 bt356.2.2.1 bt356.2.2.2.1 bt356.2.2.2.2.1 bt356.2.2.2.2.2.1)) = some r := H
                            have A58 := Aside0.mk A580
                            clear A580
                            replace H := Option.bind_eq_some_iff.mp H
                            obtain ⟨⟨t356, t357, t358, t359, t360, t361, t362⟩, A590, H⟩ := H
                            replace H : (marqueelaw05_CharsetPlays.j3 kj13 l0 x5_1 (t354 == t362) true t348 t349 t350 t351 t352 t353 t356 t357 t358 t359 t360 t361) = some r := H
                            have A59 := Aside0.mk A590
                            clear A590
                            have H' := Aside0.mk H
                            clear H
                            have hnb60 := NB301_302.out
                            have hnc60 := NB302_301.out
                            have hnb61 := NB301_305.out
                            have hnc61 := NB305_301.out
                            have hcz62_0 : wc.cell? ⟨gb301, 0, none⟩ = some (.int .u8 x302000_1) := (blk_cell BK301.out 0).trans rfl
                            have hcz62_1 : wc.cell? ⟨gb301, 1, none⟩ = some (.int .u8 x302001_1) := (blk_cell BK301.out 1).trans rfl
                            have hcz62_2 : wc.cell? ⟨gb301, 2, none⟩ = some (.int .u8 x302002_1) := (blk_cell BK301.out 2).trans rfl
                            have hcz62_3 : wc.cell? ⟨gb301, 3, none⟩ = some (.int .u8 x302003_1) := (blk_cell BK301.out 3).trans rfl
                            have hcz62_4 : wc.cell? ⟨gb301, 4, none⟩ = some (.int .u8 x302004_1) := (blk_cell BK301.out 4).trans rfl
                            have hcz62_5 : wc.cell? ⟨gb301, 5, none⟩ = some (.int .u8 x302005_1) := (blk_cell BK301.out 5).trans rfl
                            have hfz62_0 := blk_frozen BK301.out 0
                            have hfz62_1 := blk_frozen BK301.out 1
                            have hfz62_2 := blk_frozen BK301.out 2
                            have hfz62_3 := blk_frozen BK301.out 3
                            have hfz62_4 := blk_frozen BK301.out 4
                            have hfz62_5 := blk_frozen BK301.out 5
                            have hnb63 := NB305_302.out
                            have hnc63 := NB302_305.out
                            have hcz64_0 : wc.cell? ⟨gb305, 0, none⟩ = some (.int .u8 ((rd_T42 l0 x5_1).f0)) := (blk_cell BK305.out 0).trans rfl
                            have hcz64_1 : wc.cell? ⟨gb305, 1, none⟩ = some (.int .i8 ((rd_T42 l0 x5_1).f1)) := (blk_cell BK305.out 1).trans rfl
                            have hcz64_2 : wc.cell? ⟨gb305, 2, none⟩ = some (.int .u8 ((rd_T42 l0 x5_1).f2)) := (blk_cell BK305.out 2).trans rfl
                            have hcz64_3 : wc.cell? ⟨gb305, 3, none⟩ = some (.int .i32 ((rd_T42 l0 x5_1).f3)) := (blk_cell BK305.out 3).trans rfl
                            have hfz64_0 := blk_frozen BK305.out 0
                            have hfz64_1 := blk_frozen BK305.out 1
                            have hfz64_2 := blk_frozen BK305.out 2
                            have hfz64_3 := blk_frozen BK305.out 3
                            go_wp2_with (first | ((with_reducible refine gate_callee (f := 13) rfl ?_); refine goesL_ (some 34) rfl rfl Try.func13 (by kernel_rfl) rfl #[.agg #[.int .u8 x302000_1, .int .u8 x302001_1, .int .u8 x302002_1, .int .u8 x302003_1, .int .u8 x302004_1, .int .u8 x302005_1], .int .i32 ((rd_T42 l0 x5_1).f3)] rfl (by (try simp only [List.map_toArray, List.map_cons, List.map_nil]); first | done | rfl | (simp only [List.length_drop, List.length_take]; rfl)) ?_; (with_reducible refine (charset_Choice_Map.calls kj13 x302000_1 x302001_1 x302002_1 x302003_1 x302004_1 x302005_1 ((rd_T42 l0 x5_1).f3) t348 t349 t350 t351 t352 t353 t354 _ A58.out).mono ?_); rintro e w65 ⟨rfl, hb⟩; refine ⟨_, rfl, ?_⟩; have n0_ := Aside0.mk (blk_below (g := gb301) (o := .cells #[.int .u8 x302000_1, .int .u8 x302001_1, .int .u8 x302002_1, .int .u8 x302003_1, .int .u8 x302004_1, .int .u8 x302005_1] 32 (0, 0)) (by (with_reducible repeat (first | refine blk_drewN ?_ _ | refine blk_drew ?_ | refine blk_alloc ?_ _)); exact BK301.out) hb); have n1_ := Aside0.mk (blk_below (g := gb302) (o := .cells #[.int .i64 x303000_1, .int .i64 x303001_1, .int .i64 x303002_1, .int .i64 x303003_1, .int .i64 x303004_1, .int .i64 x303005_1] 39 (0, 0)) (by (with_reducible repeat (first | refine blk_drewN ?_ _ | refine blk_drew ?_ | refine blk_alloc ?_ _)); exact BK302.out) hb); have n2_ := Aside0.mk (blk_below (g := gb305) (o := .cells #[.int .u8 ((rd_T42 l0 x5_1).f0), .int .i8 ((rd_T42 l0 x5_1).f1), .int .u8 ((rd_T42 l0 x5_1).f2), .int .i32 ((rd_T42 l0 x5_1).f3)] 42 (0, 0)) (by (with_reducible repeat (first | refine blk_drewN ?_ _ | refine blk_drew ?_ | refine blk_alloc ?_ _)); exact BK305.out) hb); have n3_ := Aside0.mk (below_step (by repeat (first | (with_reducible first | exact HB.out | apply below_alloc | apply pw_below_drewN | apply below_drew1 | refine below_set ?_ GE301.out | refine below_set ?_ GE302.out | refine below_set ?_ GE305.out) | exact HB.out)) hb); clear BK301; clear BK302; clear BK305; clear HB; have BK301 := n0_; have BK302 := n1_; have BK305 := n2_; have HB := n3_; clear n0_ n1_ n2_ n3_; (try clear hb); (try clear hb2); (try clear hk); (try clear hi)) | ((with_reducible refine gate_dst (N := 9) rfl ?_); refine box_event ?hg (N := 9) ?hd (cs := #[.int .u8 0, .int .u8 0, .int .u8 0, .int .u8 0, .int .u8 0, .int .u8 0]) (t := 32) ?hr ?_; (case hd => rfl); (case hg => rfl); (case hr => first | (go_simp; done) | (go_simp; rfl)); intro gb355 hg w66 hbox hb; have n0_ := Aside0.mk (blk_below (g := gb301) (o := .cells #[.int .u8 x302000_1, .int .u8 x302001_1, .int .u8 x302002_1, .int .u8 x302003_1, .int .u8 x302004_1, .int .u8 x302005_1] 32 (0, 0)) (by (with_reducible repeat (first | refine blk_drewN ?_ _ | refine blk_drew ?_ | refine blk_alloc ?_ _)); exact BK301.out) hb); have n1_ := Aside0.mk (blk_below (g := gb302) (o := .cells #[.int .i64 x303000_1, .int .i64 x303001_1, .int .i64 x303002_1, .int .i64 x303003_1, .int .i64 x303004_1, .int .i64 x303005_1] 39 (0, 0)) (by (with_reducible repeat (first | refine blk_drewN ?_ _ | refine blk_drew ?_ | refine blk_alloc ?_ _)); exact BK302.out) hb); have n2_ := Aside0.mk (blk_below (g := gb305) (o := .cells #[.int .u8 ((rd_T42 l0 x5_1).f0), .int .i8 ((rd_T42 l0 x5_1).f1), .int .u8 ((rd_T42 l0 x5_1).f2), .int .i32 ((rd_T42 l0 x5_1).f3)] 42 (0, 0)) (by (with_reducible repeat (first | refine blk_drewN ?_ _ | refine blk_drew ?_ | refine blk_alloc ?_ _)); exact BK305.out) hb); have n3_ := Aside0.mk (below_step (by repeat (first | (with_reducible first | exact HB.out | apply below_alloc | apply pw_below_drewN | apply below_drew1 | refine below_set ?_ GE301.out | refine below_set ?_ GE302.out | refine below_set ?_ GE305.out) | exact HB.out)) hb); have n4_ := Aside0.mk (hbox); have n5_ := Aside0.mk ((by rw [hg]; exact (below_size (by repeat (first | (with_reducible first | exact HB.out | apply below_alloc | apply pw_below_drewN | apply below_drew1 | refine below_set ?_ GE301.out | refine below_set ?_ GE302.out | refine below_set ?_ GE305.out) | exact HB.out))) : w.heap.size ≤ gb355)); have n6_ := Aside0.mk ((by rw [hg]; exact (below_size (by repeat (first | (with_reducible first | exact HB.out | apply below_alloc | apply pw_below_drewN | apply below_drew1 | refine below_set ?_ GE301.out | refine below_set ?_ GE302.out | refine below_set ?_ GE305.out) | exact HB.out))) : w.heap.size ≤ gb355)); have n7_ := Aside0.mk ((by rw [hg]; exact Nat.ne_of_lt (blk_lt (g := gb301) (o := .cells #[.int .u8 x302000_1, .int .u8 x302001_1, .int .u8 x302002_1, .int .u8 x302003_1, .int .u8 x302004_1, .int .u8 x302005_1] 32 (0, 0)) (by (with_reducible repeat (first | refine blk_drewN ?_ _ | refine blk_drew ?_ | refine blk_alloc ?_ _)); exact BK301.out)) : gb301 ≠ gb355)); have n8_ := Aside0.mk ((by rw [hg]; exact Nat.ne_of_gt (blk_lt (g := gb301) (o := .cells #[.int .u8 x302000_1, .int .u8 x302001_1, .int .u8 x302002_1, .int .u8 x302003_1, .int .u8 x302004_1, .int .u8 x302005_1] 32 (0, 0)) (by (with_reducible repeat (first | refine blk_drewN ?_ _ | refine blk_drew ?_ | refine blk_alloc ?_ _)); exact BK301.out)) : gb355 ≠ gb301)); have n9_ := Aside0.mk ((by rw [hg]; exact Nat.ne_of_lt (blk_lt (g := gb302) (o := .cells #[.int .i64 x303000_1, .int .i64 x303001_1, .int .i64 x303002_1, .int .i64 x303003_1, .int .i64 x303004_1, .int .i64 x303005_1] 39 (0, 0)) (by (with_reducible repeat (first | refine blk_drewN ?_ _ | refine blk_drew ?_ | refine blk_alloc ?_ _)); exact BK302.out)) : gb302 ≠ gb355)); have n10_ := Aside0.mk ((by rw [hg]; exact Nat.ne_of_gt (blk_lt (g := gb302) (o := .cells #[.int .i64 x303000_1, .int .i64 x303001_1, .int .i64 x303002_1, .int .i64 x303003_1, .int .i64 x303004_1, .int .i64 x303005_1] 39 (0, 0)) (by (with_reducible repeat (first | refine blk_drewN ?_ _ | refine blk_drew ?_ | refine blk_alloc ?_ _)); exact BK302.out)) : gb355 ≠ gb302)); have n11_ := Aside0.mk ((by rw [hg]; exact Nat.ne_of_lt (blk_lt (g := gb305) (o := .cells #[.int .u8 ((rd_T42 l0 x5_1).f0), .int .i8 ((rd_T42 l0 x5_1).f1), .int .u8 ((rd_T42 l0 x5_1).f2), .int .i32 ((rd_T42 l0 x5_1).f3)] 42 (0, 0)) (by (with_reducible repeat (first | refine blk_drewN ?_ _ | refine blk_drew ?_ | refine blk_alloc ?_ _)); exact BK305.out)) : gb305 ≠ gb355)); have n12_ := Aside0.mk ((by rw [hg]; exact Nat.ne_of_gt (blk_lt (g := gb305) (o := .cells #[.int .u8 ((rd_T42 l0 x5_1).f0), .int .i8 ((rd_T42 l0 x5_1).f1), .int .u8 ((rd_T42 l0 x5_1).f2), .int .i32 ((rd_T42 l0 x5_1).f3)] 42 (0, 0)) (by (with_reducible repeat (first | refine blk_drewN ?_ _ | refine blk_drew ?_ | refine blk_alloc ?_ _)); exact BK305.out)) : gb355 ≠ gb305)); clear BK301; clear BK302; clear BK305; clear HB; have BK301 := n0_; have BK302 := n1_; have BK305 := n2_; have HB := n3_; have BK355 := n4_; have GW355 := n5_; have GE355 := n6_; have NB301_355 := n7_; have NB355_301 := n8_; have NB302_355 := n9_; have NB355_302 := n10_; have NB305_355 := n11_; have NB355_305 := n12_; clear n0_ n1_ n2_ n3_ n4_ n5_ n6_ n7_ n8_ n9_ n10_ n11_ n12_; clear hb hbox hg; have hnb67 := NB355_301.out; have hnc67 := NB301_355.out; have hnb68 := NB355_302.out; have hnc68 := NB302_355.out; have hnb69 := NB355_305.out; have hnc69 := NB305_355.out; have hcz70_0 : w66.cell? ⟨gb355, 0, none⟩ = some (.int .u8 0) := (blk_cell BK355.out 0).trans rfl; have hcz70_1 : w66.cell? ⟨gb355, 1, none⟩ = some (.int .u8 0) := (blk_cell BK355.out 1).trans rfl; have hcz70_2 : w66.cell? ⟨gb355, 2, none⟩ = some (.int .u8 0) := (blk_cell BK355.out 2).trans rfl; have hcz70_3 : w66.cell? ⟨gb355, 3, none⟩ = some (.int .u8 0) := (blk_cell BK355.out 3).trans rfl; have hcz70_4 : w66.cell? ⟨gb355, 4, none⟩ = some (.int .u8 0) := (blk_cell BK355.out 4).trans rfl; have hcz70_5 : w66.cell? ⟨gb355, 5, none⟩ = some (.int .u8 0) := (blk_cell BK355.out 5).trans rfl; have hfz70_0 := blk_frozen BK355.out 0; have hfz70_1 := blk_frozen BK355.out 1; have hfz70_2 := blk_frozen BK355.out 2; have hfz70_3 := blk_frozen BK355.out 3; have hfz70_4 := blk_frozen BK355.out 4; have hfz70_5 := blk_frozen BK355.out 5; have hcz71_0 : w66.cell? ⟨gb302, 0, none⟩ = some (.int .i64 x303000_1) := (blk_cell BK302.out 0).trans rfl; have hcz71_1 : w66.cell? ⟨gb302, 1, none⟩ = some (.int .i64 x303001_1) := (blk_cell BK302.out 1).trans rfl; have hcz71_2 : w66.cell? ⟨gb302, 2, none⟩ = some (.int .i64 x303002_1) := (blk_cell BK302.out 2).trans rfl; have hcz71_3 : w66.cell? ⟨gb302, 3, none⟩ = some (.int .i64 x303003_1) := (blk_cell BK302.out 3).trans rfl; have hcz71_4 : w66.cell? ⟨gb302, 4, none⟩ = some (.int .i64 x303004_1) := (blk_cell BK302.out 4).trans rfl; have hcz71_5 : w66.cell? ⟨gb302, 5, none⟩ = some (.int .i64 x303005_1) := (blk_cell BK302.out 5).trans rfl; have hfz71_0 := blk_frozen BK302.out 0; have hfz71_1 := blk_frozen BK302.out 1; have hfz71_2 := blk_frozen BK302.out 2; have hfz71_3 := blk_frozen BK302.out 3; have hfz71_4 := blk_frozen BK302.out 4; have hfz71_5 := blk_frozen BK302.out 5; have hcz72_0 : w66.cell? ⟨gb305, 0, none⟩ = some (.int .u8 ((rd_T42 l0 x5_1).f0)) := (blk_cell BK305.out 0).trans rfl; have hcz72_1 : w66.cell? ⟨gb305, 1, none⟩ = some (.int .i8 ((rd_T42 l0 x5_1).f1)) := (blk_cell BK305.out 1).trans rfl; have hcz72_2 : w66.cell? ⟨gb305, 2, none⟩ = some (.int .u8 ((rd_T42 l0 x5_1).f2)) := (blk_cell BK305.out 2).trans rfl; have hcz72_3 : w66.cell? ⟨gb305, 3, none⟩ = some (.int .i32 ((rd_T42 l0 x5_1).f3)) := (blk_cell BK305.out 3).trans rfl; have hfz72_0 := blk_frozen BK305.out 0; have hfz72_1 := blk_frozen BK305.out 1; have hfz72_2 := blk_frozen BK305.out 2; have hfz72_3 := blk_frozen BK305.out 3) | ((with_reducible refine gate_callee (f := 20) rfl ?_); refine goesL_ (some 41) rfl rfl Try.func20 (by kernel_rfl) rfl #[.agg #[.int .i64 x303000_1, .int .i64 x303001_1, .int .i64 x303002_1, .int .i64 x303003_1, .int .i64 x303004_1, .int .i64 x303005_1], .int .i32 ((rd_T42 l0 x5_1).f3)] rfl (by (try simp only [List.map_toArray, List.map_cons, List.map_nil]); first | done | rfl | (simp only [List.length_drop, List.length_take]; rfl)) ?_; (with_reducible refine (marqueeref05_Choice_Map.calls kj13 x303000_1 x303001_1 x303002_1 x303003_1 x303004_1 x303005_1 ((rd_T42 l0 x5_1).f3) t356 t357 t358 t359 t360 t361 t362 _ A59.out).mono ?_); rintro e w73 ⟨rfl, hb⟩; refine ⟨_, rfl, ?_⟩; have n0_ := Aside0.mk (blk_below (g := gb301) (o := .cells #[.int .u8 x302000_1, .int .u8 x302001_1, .int .u8 x302002_1, .int .u8 x302003_1, .int .u8 x302004_1, .int .u8 x302005_1] 32 (0, 0)) (by (with_reducible repeat (first | refine blk_drewN ?_ _ | refine blk_drew ?_ | refine blk_alloc ?_ _)); refine blk_far ?_ NB301_355.out _; (with_reducible repeat (first | refine blk_drewN ?_ _ | refine blk_drew ?_ | refine blk_alloc ?_ _)); refine blk_far ?_ NB301_355.out _; (with_reducible repeat (first | refine blk_drewN ?_ _ | refine blk_drew ?_ | refine blk_alloc ?_ _)); refine blk_far ?_ NB301_355.out _; (with_reducible repeat (first | refine blk_drewN ?_ _ | refine blk_drew ?_ | refine blk_alloc ?_ _)); refine blk_far ?_ NB301_355.out _; (with_reducible repeat (first | refine blk_drewN ?_ _ | refine blk_drew ?_ | refine blk_alloc ?_ _)); refine blk_far ?_ NB301_355.out _; (with_reducible repeat (first | refine blk_drewN ?_ _ | refine blk_drew ?_ | refine blk_alloc ?_ _)); refine blk_far ?_ NB301_355.out _; (with_reducible repeat (first | refine blk_drewN ?_ _ | refine blk_drew ?_ | refine blk_alloc ?_ _)); exact BK301.out) hb); have n1_ := Aside0.mk (blk_below (g := gb302) (o := .cells #[.int .i64 x303000_1, .int .i64 x303001_1, .int .i64 x303002_1, .int .i64 x303003_1, .int .i64 x303004_1, .int .i64 x303005_1] 39 (0, 0)) (by (with_reducible repeat (first | refine blk_drewN ?_ _ | refine blk_drew ?_ | refine blk_alloc ?_ _)); refine blk_far ?_ NB302_355.out _; (with_reducible repeat (first | refine blk_drewN ?_ _ | refine blk_drew ?_ | refine blk_alloc ?_ _)); refine blk_far ?_ NB302_355.out _; (with_reducible repeat (first | refine blk_drewN ?_ _ | refine blk_drew ?_ | refine blk_alloc ?_ _)); refine blk_far ?_ NB302_355.out _; (with_reducible repeat (first | refine blk_drewN ?_ _ | refine blk_drew ?_ | refine blk_alloc ?_ _)); refine blk_far ?_ NB302_355.out _; (with_reducible repeat (first | refine blk_drewN ?_ _ | refine blk_drew ?_ | refine blk_alloc ?_ _)); refine blk_far ?_ NB302_355.out _; (with_reducible repeat (first | refine blk_drewN ?_ _ | refine blk_drew ?_ | refine blk_alloc ?_ _)); refine blk_far ?_ NB302_355.out _; (with_reducible repeat (first | refine blk_drewN ?_ _ | refine blk_drew ?_ | refine blk_alloc ?_ _)); exact BK302.out) hb); have n2_ := Aside0.mk (blk_below (g := gb305) (o := .cells #[.int .u8 ((rd_T42 l0 x5_1).f0), .int .i8 ((rd_T42 l0 x5_1).f1), .int .u8 ((rd_T42 l0 x5_1).f2), .int .i32 ((rd_T42 l0 x5_1).f3)] 42 (0, 0)) (by (with_reducible repeat (first | refine blk_drewN ?_ _ | refine blk_drew ?_ | refine blk_alloc ?_ _)); refine blk_far ?_ NB305_355.out _; (with_reducible repeat (first | refine blk_drewN ?_ _ | refine blk_drew ?_ | refine blk_alloc ?_ _)); refine blk_far ?_ NB305_355.out _; (with_reducible repeat (first | refine blk_drewN ?_ _ | refine blk_drew ?_ | refine blk_alloc ?_ _)); refine blk_far ?_ NB305_355.out _; (with_reducible repeat (first | refine blk_drewN ?_ _ | refine blk_drew ?_ | refine blk_alloc ?_ _)); refine blk_far ?_ NB305_355.out _; (with_reducible repeat (first | refine blk_drewN ?_ _ | refine blk_drew ?_ | refine blk_alloc ?_ _)); refine blk_far ?_ NB305_355.out _; (with_reducible repeat (first | refine blk_drewN ?_ _ | refine blk_drew ?_ | refine blk_alloc ?_ _)); refine blk_far ?_ NB305_355.out _; (with_reducible repeat (first | refine blk_drewN ?_ _ | refine blk_drew ?_ | refine blk_alloc ?_ _)); exact BK305.out) hb); have n3_ := Aside0.mk (blk_below (g := gb355) (o := .cells #[.int .u8 t348, .int .u8 t349, .int .u8 t350, .int .u8 t351, .int .u8 t352, .int .u8 t353] 32 (0, 0)) (by (with_reducible repeat (first | refine blk_drewN ?_ _ | refine blk_drew ?_ | refine blk_alloc ?_ _)); refine blk_put (cs := #[.int .u8 t348, .int .u8 t349, .int .u8 t350, .int .u8 t351, .int .u8 t352, .int .u8 0]) ?_ 5 _ rfl; (with_reducible repeat (first | refine blk_drewN ?_ _ | refine blk_drew ?_ | refine blk_alloc ?_ _)); refine blk_put (cs := #[.int .u8 t348, .int .u8 t349, .int .u8 t350, .int .u8 t351, .int .u8 0, .int .u8 0]) ?_ 4 _ rfl; (with_reducible repeat (first | refine blk_drewN ?_ _ | refine blk_drew ?_ | refine blk_alloc ?_ _)); refine blk_put (cs := #[.int .u8 t348, .int .u8 t349, .int .u8 t350, .int .u8 0, .int .u8 0, .int .u8 0]) ?_ 3 _ rfl; (with_reducible repeat (first | refine blk_drewN ?_ _ | refine blk_drew ?_ | refine blk_alloc ?_ _)); refine blk_put (cs := #[.int .u8 t348, .int .u8 t349, .int .u8 0, .int .u8 0, .int .u8 0, .int .u8 0]) ?_ 2 _ rfl; (with_reducible repeat (first | refine blk_drewN ?_ _ | refine blk_drew ?_ | refine blk_alloc ?_ _)); refine blk_put (cs := #[.int .u8 t348, .int .u8 0, .int .u8 0, .int .u8 0, .int .u8 0, .int .u8 0]) ?_ 1 _ rfl; (with_reducible repeat (first | refine blk_drewN ?_ _ | refine blk_drew ?_ | refine blk_alloc ?_ _)); refine blk_put (cs := #[.int .u8 0, .int .u8 0, .int .u8 0, .int .u8 0, .int .u8 0, .int .u8 0]) ?_ 0 _ rfl; (with_reducible repeat (first | refine blk_drewN ?_ _ | refine blk_drew ?_ | refine blk_alloc ?_ _)); exact BK355.out) hb); have n4_ := Aside0.mk (below_step (by repeat (first | (with_reducible first | exact HB.out | apply below_alloc | apply pw_below_drewN | apply below_drew1 | refine below_set ?_ GE301.out | refine below_set ?_ GE302.out | refine below_set ?_ GE305.out | refine below_set ?_ GE355.out) | exact HB.out)) hb); clear BK301; clear BK302; clear BK305; clear BK355; clear HB; have BK301 := n0_; have BK302 := n1_; have BK305 := n2_; have BK355 := n3_; have HB := n4_; clear n0_ n1_ n2_ n3_ n4_; (try clear hb); (try clear hb2); (try clear hk); (try clear hi)) | ((with_reducible refine gate_dst (N := 11) rfl ?_); refine box_event ?hg (N := 11) ?hd (cs := #[.int .i64 0, .int .i64 0, .int .i64 0, .int .i64 0, .int .i64 0, .int .i64 0]) (t := 39) ?hr ?_; (case hd => rfl); (case hg => rfl); (case hr => first | (go_simp; done) | (go_simp; rfl)); intro gb363 hg w74 hbox hb; have n0_ := Aside0.mk (blk_below (g := gb301) (o := .cells #[.int .u8 x302000_1, .int .u8 x302001_1, .int .u8 x302002_1, .int .u8 x302003_1, .int .u8 x302004_1, .int .u8 x302005_1] 32 (0, 0)) (by (with_reducible repeat (first | refine blk_drewN ?_ _ | refine blk_drew ?_ | refine blk_alloc ?_ _)); exact BK301.out) hb); have n1_ := Aside0.mk (blk_below (g := gb302) (o := .cells #[.int .i64 x303000_1, .int .i64 x303001_1, .int .i64 x303002_1, .int .i64 x303003_1, .int .i64 x303004_1, .int .i64 x303005_1] 39 (0, 0)) (by (with_reducible repeat (first | refine blk_drewN ?_ _ | refine blk_drew ?_ | refine blk_alloc ?_ _)); exact BK302.out) hb); have n2_ := Aside0.mk (blk_below (g := gb305) (o := .cells #[.int .u8 ((rd_T42 l0 x5_1).f0), .int .i8 ((rd_T42 l0 x5_1).f1), .int .u8 ((rd_T42 l0 x5_1).f2), .int .i32 ((rd_T42 l0 x5_1).f3)] 42 (0, 0)) (by (with_reducible repeat (first | refine blk_drewN ?_ _ | refine blk_drew ?_ | refine blk_alloc ?_ _)); exact BK305.out) hb); have n3_ := Aside0.mk (blk_below (g := gb355) (o := .cells #[.int .u8 t348, .int .u8 t349, .int .u8 t350, .int .u8 t351, .int .u8 t352, .int .u8 t353] 32 (0, 0)) (by (with_reducible repeat (first | refine blk_drewN ?_ _ | refine blk_drew ?_ | refine blk_alloc ?_ _)); exact BK355.out) hb); have n4_ := Aside0.mk (below_step (by repeat (first | (with_reducible first | exact HB.out | apply below_alloc | apply pw_below_drewN | apply below_drew1 | refine below_set ?_ GE301.out | refine below_set ?_ GE302.out | refine below_set ?_ GE305.out | refine below_set ?_ GE355.out) | exact HB.out)) hb); have n5_ := Aside0.mk (hbox); have n6_ := Aside0.mk ((by rw [hg]; exact (below_size (by repeat (first | (with_reducible first | exact HB.out | apply below_alloc | apply pw_below_drewN | apply below_drew1 | refine below_set ?_ GE301.out | refine below_set ?_ GE302.out | refine below_set ?_ GE305.out | refine below_set ?_ GE355.out) | exact HB.out))) : w.heap.size ≤ gb363)); have n7_ := Aside0.mk ((by rw [hg]; exact (below_size (by repeat (first | (with_reducible first | exact HB.out | apply below_alloc | apply pw_below_drewN | apply below_drew1 | refine below_set ?_ GE301.out | refine below_set ?_ GE302.out | refine below_set ?_ GE305.out | refine below_set ?_ GE355.out) | exact HB.out))) : w.heap.size ≤ gb363)); have n8_ := Aside0.mk ((by rw [hg]; exact Nat.ne_of_lt (blk_lt (g := gb301) (o := .cells #[.int .u8 x302000_1, .int .u8 x302001_1, .int .u8 x302002_1, .int .u8 x302003_1, .int .u8 x302004_1, .int .u8 x302005_1] 32 (0, 0)) (by (with_reducible repeat (first | refine blk_drewN ?_ _ | refine blk_drew ?_ | refine blk_alloc ?_ _)); exact BK301.out)) : gb301 ≠ gb363)); have n9_ := Aside0.mk ((by rw [hg]; exact Nat.ne_of_gt (blk_lt (g := gb301) (o := .cells #[.int .u8 x302000_1, .int .u8 x302001_1, .int .u8 x302002_1, .int .u8 x302003_1, .int .u8 x302004_1, .int .u8 x302005_1] 32 (0, 0)) (by (with_reducible repeat (first | refine blk_drewN ?_ _ | refine blk_drew ?_ | refine blk_alloc ?_ _)); exact BK301.out)) : gb363 ≠ gb301)); have n10_ := Aside0.mk ((by rw [hg]; exact Nat.ne_of_lt (blk_lt (g := gb302) (o := .cells #[.int .i64 x303000_1, .int .i64 x303001_1, .int .i64 x303002_1, .int .i64 x303003_1, .int .i64 x303004_1, .int .i64 x303005_1] 39 (0, 0)) (by (with_reducible repeat (first | refine blk_drewN ?_ _ | refine blk_drew ?_ | refine blk_alloc ?_ _)); exact BK302.out)) : gb302 ≠ gb363)); have n11_ := Aside0.mk ((by rw [hg]; exact Nat.ne_of_gt (blk_lt (g := gb302) (o := .cells #[.int .i64 x303000_1, .int .i64 x303001_1, .int .i64 x303002_1, .int .i64 x303003_1, .int .i64 x303004_1, .int .i64 x303005_1] 39 (0, 0)) (by (with_reducible repeat (first | refine blk_drewN ?_ _ | refine blk_drew ?_ | refine blk_alloc ?_ _)); exact BK302.out)) : gb363 ≠ gb302)); have n12_ := Aside0.mk ((by rw [hg]; exact Nat.ne_of_lt (blk_lt (g := gb305) (o := .cells #[.int .u8 ((rd_T42 l0 x5_1).f0), .int .i8 ((rd_T42 l0 x5_1).f1), .int .u8 ((rd_T42 l0 x5_1).f2), .int .i32 ((rd_T42 l0 x5_1).f3)] 42 (0, 0)) (by (with_reducible repeat (first | refine blk_drewN ?_ _ | refine blk_drew ?_ | refine blk_alloc ?_ _)); exact BK305.out)) : gb305 ≠ gb363)); have n13_ := Aside0.mk ((by rw [hg]; exact Nat.ne_of_gt (blk_lt (g := gb305) (o := .cells #[.int .u8 ((rd_T42 l0 x5_1).f0), .int .i8 ((rd_T42 l0 x5_1).f1), .int .u8 ((rd_T42 l0 x5_1).f2), .int .i32 ((rd_T42 l0 x5_1).f3)] 42 (0, 0)) (by (with_reducible repeat (first | refine blk_drewN ?_ _ | refine blk_drew ?_ | refine blk_alloc ?_ _)); exact BK305.out)) : gb363 ≠ gb305)); have n14_ := Aside0.mk ((by rw [hg]; exact Nat.ne_of_lt (blk_lt (g := gb355) (o := .cells #[.int .u8 t348, .int .u8 t349, .int .u8 t350, .int .u8 t351, .int .u8 t352, .int .u8 t353] 32 (0, 0)) (by (with_reducible repeat (first | refine blk_drewN ?_ _ | refine blk_drew ?_ | refine blk_alloc ?_ _)); exact BK355.out)) : gb355 ≠ gb363)); have n15_ := Aside0.mk ((by rw [hg]; exact Nat.ne_of_gt (blk_lt (g := gb355) (o := .cells #[.int .u8 t348, .int .u8 t349, .int .u8 t350, .int .u8 t351, .int .u8 t352, .int .u8 t353] 32 (0, 0)) (by (with_reducible repeat (first | refine blk_drewN ?_ _ | refine blk_drew ?_ | refine blk_alloc ?_ _)); exact BK355.out)) : gb363 ≠ gb355)); clear BK301; clear BK302; clear BK305; clear BK355; clear HB; have BK301 := n0_; have BK302 := n1_; have BK305 := n2_; have BK355 := n3_; have HB := n4_; have BK363 := n5_; have GW363 := n6_; have GE363 := n7_; have NB301_363 := n8_; have NB363_301 := n9_; have NB302_363 := n10_; have NB363_302 := n11_; have NB305_363 := n12_; have NB363_305 := n13_; have NB355_363 := n14_; have NB363_355 := n15_; clear n0_ n1_ n2_ n3_ n4_ n5_ n6_ n7_ n8_ n9_ n10_ n11_ n12_ n13_ n14_ n15_; clear hb hbox hg; have hnb75 := NB363_301.out; have hnc75 := NB301_363.out; have hnb76 := NB363_302.out; have hnc76 := NB302_363.out; have hnb77 := NB363_305.out; have hnc77 := NB305_363.out; have hnb78 := NB363_355.out; have hnc78 := NB355_363.out; have hcz79_0 : w74.cell? ⟨gb363, 0, none⟩ = some (.int .i64 0) := (blk_cell BK363.out 0).trans rfl; have hcz79_1 : w74.cell? ⟨gb363, 1, none⟩ = some (.int .i64 0) := (blk_cell BK363.out 1).trans rfl; have hcz79_2 : w74.cell? ⟨gb363, 2, none⟩ = some (.int .i64 0) := (blk_cell BK363.out 2).trans rfl; have hcz79_3 : w74.cell? ⟨gb363, 3, none⟩ = some (.int .i64 0) := (blk_cell BK363.out 3).trans rfl; have hcz79_4 : w74.cell? ⟨gb363, 4, none⟩ = some (.int .i64 0) := (blk_cell BK363.out 4).trans rfl; have hcz79_5 : w74.cell? ⟨gb363, 5, none⟩ = some (.int .i64 0) := (blk_cell BK363.out 5).trans rfl; have hfz79_0 := blk_frozen BK363.out 0; have hfz79_1 := blk_frozen BK363.out 1; have hfz79_2 := blk_frozen BK363.out 2; have hfz79_3 := blk_frozen BK363.out 3; have hfz79_4 := blk_frozen BK363.out 4; have hfz79_5 := blk_frozen BK363.out 5; have hcz80_0 : w74.cell? ⟨gb355, 0, none⟩ = some (.int .u8 t348) := (blk_cell BK355.out 0).trans rfl; have hcz80_1 : w74.cell? ⟨gb355, 1, none⟩ = some (.int .u8 t349) := (blk_cell BK355.out 1).trans rfl; have hcz80_2 : w74.cell? ⟨gb355, 2, none⟩ = some (.int .u8 t350) := (blk_cell BK355.out 2).trans rfl; have hcz80_3 : w74.cell? ⟨gb355, 3, none⟩ = some (.int .u8 t351) := (blk_cell BK355.out 3).trans rfl; have hcz80_4 : w74.cell? ⟨gb355, 4, none⟩ = some (.int .u8 t352) := (blk_cell BK355.out 4).trans rfl; have hcz80_5 : w74.cell? ⟨gb355, 5, none⟩ = some (.int .u8 t353) := (blk_cell BK355.out 5).trans rfl; have hfz80_0 := blk_frozen BK355.out 0; have hfz80_1 := blk_frozen BK355.out 1; have hfz80_2 := blk_frozen BK355.out 2; have hfz80_3 := blk_frozen BK355.out 3; have hfz80_4 := blk_frozen BK355.out 4; have hfz80_5 := blk_frozen BK355.out 5; have hcz81_0 : w74.cell? ⟨gb301, 0, none⟩ = some (.int .u8 x302000_1) := (blk_cell BK301.out 0).trans rfl; have hcz81_1 : w74.cell? ⟨gb301, 1, none⟩ = some (.int .u8 x302001_1) := (blk_cell BK301.out 1).trans rfl; have hcz81_2 : w74.cell? ⟨gb301, 2, none⟩ = some (.int .u8 x302002_1) := (blk_cell BK301.out 2).trans rfl; have hcz81_3 : w74.cell? ⟨gb301, 3, none⟩ = some (.int .u8 x302003_1) := (blk_cell BK301.out 3).trans rfl; have hcz81_4 : w74.cell? ⟨gb301, 4, none⟩ = some (.int .u8 x302004_1) := (blk_cell BK301.out 4).trans rfl; have hcz81_5 : w74.cell? ⟨gb301, 5, none⟩ = some (.int .u8 x302005_1) := (blk_cell BK301.out 5).trans rfl; have hfz81_0 := blk_frozen BK301.out 0; have hfz81_1 := blk_frozen BK301.out 1; have hfz81_2 := blk_frozen BK301.out 2; have hfz81_3 := blk_frozen BK301.out 3; have hfz81_4 := blk_frozen BK301.out 4; have hfz81_5 := blk_frozen BK301.out 5; have hcz82_0 : w74.cell? ⟨gb302, 0, none⟩ = some (.int .i64 x303000_1) := (blk_cell BK302.out 0).trans rfl; have hcz82_1 : w74.cell? ⟨gb302, 1, none⟩ = some (.int .i64 x303001_1) := (blk_cell BK302.out 1).trans rfl; have hcz82_2 : w74.cell? ⟨gb302, 2, none⟩ = some (.int .i64 x303002_1) := (blk_cell BK302.out 2).trans rfl; have hcz82_3 : w74.cell? ⟨gb302, 3, none⟩ = some (.int .i64 x303003_1) := (blk_cell BK302.out 3).trans rfl; have hcz82_4 : w74.cell? ⟨gb302, 4, none⟩ = some (.int .i64 x303004_1) := (blk_cell BK302.out 4).trans rfl; have hcz82_5 : w74.cell? ⟨gb302, 5, none⟩ = some (.int .i64 x303005_1) := (blk_cell BK302.out 5).trans rfl; have hfz82_0 := blk_frozen BK302.out 0; have hfz82_1 := blk_frozen BK302.out 1; have hfz82_2 := blk_frozen BK302.out 2; have hfz82_3 := blk_frozen BK302.out 3; have hfz82_4 := blk_frozen BK302.out 4; have hfz82_5 := blk_frozen BK302.out 5))
                            go_meet
                            case rel => exact ⟨_, ((t354 == t362)), (true), (t348), (t349), (t350), (t351), (t352), (t353), (t356), (t357), (t358), (t359), (t360), (t361), (by first | rfl | (simp; done) | (simp [*]; done)), (by first | rfl | (simp; done) | (simp [*]; done)), H', ⟨by have := HK1.out; have := HJ3.out; have := HJ13.out; first | omega | exact Nat.le_refl _⟩, ⟨by (with_reducible repeat (first | refine blk_drewN ?_ _ | refine blk_drew ?_ | refine blk_alloc ?_ _)); refine blk_far ?_ NB301_302.out _; (with_reducible repeat (first | refine blk_drewN ?_ _ | refine blk_drew ?_ | refine blk_alloc ?_ _)); refine blk_far ?_ NB301_302.out _; (with_reducible repeat (first | refine blk_drewN ?_ _ | refine blk_drew ?_ | refine blk_alloc ?_ _)); refine blk_far ?_ NB301_302.out _; (with_reducible repeat (first | refine blk_drewN ?_ _ | refine blk_drew ?_ | refine blk_alloc ?_ _)); refine blk_far ?_ NB301_302.out _; (with_reducible repeat (first | refine blk_drewN ?_ _ | refine blk_drew ?_ | refine blk_alloc ?_ _)); refine blk_far ?_ NB301_302.out _; (with_reducible repeat (first | refine blk_drewN ?_ _ | refine blk_drew ?_ | refine blk_alloc ?_ _)); refine blk_far ?_ NB301_302.out _; (with_reducible repeat (first | refine blk_drewN ?_ _ | refine blk_drew ?_ | refine blk_alloc ?_ _)); refine blk_put (cs := #[.int .u8 t348, .int .u8 t349, .int .u8 t350, .int .u8 t351, .int .u8 t352, .int .u8 x302005_1]) ?_ 5 _ rfl; (with_reducible repeat (first | refine blk_drewN ?_ _ | refine blk_drew ?_ | refine blk_alloc ?_ _)); refine blk_put (cs := #[.int .u8 t348, .int .u8 t349, .int .u8 t350, .int .u8 t351, .int .u8 x302004_1, .int .u8 x302005_1]) ?_ 4 _ rfl; (with_reducible repeat (first | refine blk_drewN ?_ _ | refine blk_drew ?_ | refine blk_alloc ?_ _)); refine blk_put (cs := #[.int .u8 t348, .int .u8 t349, .int .u8 t350, .int .u8 x302003_1, .int .u8 x302004_1, .int .u8 x302005_1]) ?_ 3 _ rfl; (with_reducible repeat (first | refine blk_drewN ?_ _ | refine blk_drew ?_ | refine blk_alloc ?_ _)); refine blk_put (cs := #[.int .u8 t348, .int .u8 t349, .int .u8 x302002_1, .int .u8 x302003_1, .int .u8 x302004_1, .int .u8 x302005_1]) ?_ 2 _ rfl; (with_reducible repeat (first | refine blk_drewN ?_ _ | refine blk_drew ?_ | refine blk_alloc ?_ _)); refine blk_put (cs := #[.int .u8 t348, .int .u8 x302001_1, .int .u8 x302002_1, .int .u8 x302003_1, .int .u8 x302004_1, .int .u8 x302005_1]) ?_ 1 _ rfl; (with_reducible repeat (first | refine blk_drewN ?_ _ | refine blk_drew ?_ | refine blk_alloc ?_ _)); refine blk_put (cs := #[.int .u8 x302000_1, .int .u8 x302001_1, .int .u8 x302002_1, .int .u8 x302003_1, .int .u8 x302004_1, .int .u8 x302005_1]) ?_ 0 _ rfl; (with_reducible repeat (first | refine blk_drewN ?_ _ | refine blk_drew ?_ | refine blk_alloc ?_ _)); refine blk_far ?_ NB301_363.out _; (with_reducible repeat (first | refine blk_drewN ?_ _ | refine blk_drew ?_ | refine blk_alloc ?_ _)); refine blk_far ?_ NB301_363.out _; (with_reducible repeat (first | refine blk_drewN ?_ _ | refine blk_drew ?_ | refine blk_alloc ?_ _)); refine blk_far ?_ NB301_363.out _; (with_reducible repeat (first | refine blk_drewN ?_ _ | refine blk_drew ?_ | refine blk_alloc ?_ _)); refine blk_far ?_ NB301_363.out _; (with_reducible repeat (first | refine blk_drewN ?_ _ | refine blk_drew ?_ | refine blk_alloc ?_ _)); refine blk_far ?_ NB301_363.out _; (with_reducible repeat (first | refine blk_drewN ?_ _ | refine blk_drew ?_ | refine blk_alloc ?_ _)); refine blk_far ?_ NB301_363.out _; (with_reducible repeat (first | refine blk_drewN ?_ _ | refine blk_drew ?_ | refine blk_alloc ?_ _)); exact BK301.out⟩, ⟨by (with_reducible repeat (first | refine blk_drewN ?_ _ | refine blk_drew ?_ | refine blk_alloc ?_ _)); refine blk_put (cs := #[.int .i64 t356, .int .i64 t357, .int .i64 t358, .int .i64 t359, .int .i64 t360, .int .i64 x303005_1]) ?_ 5 _ rfl; (with_reducible repeat (first | refine blk_drewN ?_ _ | refine blk_drew ?_ | refine blk_alloc ?_ _)); refine blk_put (cs := #[.int .i64 t356, .int .i64 t357, .int .i64 t358, .int .i64 t359, .int .i64 x303004_1, .int .i64 x303005_1]) ?_ 4 _ rfl; (with_reducible repeat (first | refine blk_drewN ?_ _ | refine blk_drew ?_ | refine blk_alloc ?_ _)); refine blk_put (cs := #[.int .i64 t356, .int .i64 t357, .int .i64 t358, .int .i64 x303003_1, .int .i64 x303004_1, .int .i64 x303005_1]) ?_ 3 _ rfl; (with_reducible repeat (first | refine blk_drewN ?_ _ | refine blk_drew ?_ | refine blk_alloc ?_ _)); refine blk_put (cs := #[.int .i64 t356, .int .i64 t357, .int .i64 x303002_1, .int .i64 x303003_1, .int .i64 x303004_1, .int .i64 x303005_1]) ?_ 2 _ rfl; (with_reducible repeat (first | refine blk_drewN ?_ _ | refine blk_drew ?_ | refine blk_alloc ?_ _)); refine blk_put (cs := #[.int .i64 t356, .int .i64 x303001_1, .int .i64 x303002_1, .int .i64 x303003_1, .int .i64 x303004_1, .int .i64 x303005_1]) ?_ 1 _ rfl; (with_reducible repeat (first | refine blk_drewN ?_ _ | refine blk_drew ?_ | refine blk_alloc ?_ _)); refine blk_put (cs := #[.int .i64 x303000_1, .int .i64 x303001_1, .int .i64 x303002_1, .int .i64 x303003_1, .int .i64 x303004_1, .int .i64 x303005_1]) ?_ 0 _ rfl; (with_reducible repeat (first | refine blk_drewN ?_ _ | refine blk_drew ?_ | refine blk_alloc ?_ _)); refine blk_far ?_ NB302_301.out _; (with_reducible repeat (first | refine blk_drewN ?_ _ | refine blk_drew ?_ | refine blk_alloc ?_ _)); refine blk_far ?_ NB302_301.out _; (with_reducible repeat (first | refine blk_drewN ?_ _ | refine blk_drew ?_ | refine blk_alloc ?_ _)); refine blk_far ?_ NB302_301.out _; (with_reducible repeat (first | refine blk_drewN ?_ _ | refine blk_drew ?_ | refine blk_alloc ?_ _)); refine blk_far ?_ NB302_301.out _; (with_reducible repeat (first | refine blk_drewN ?_ _ | refine blk_drew ?_ | refine blk_alloc ?_ _)); refine blk_far ?_ NB302_301.out _; (with_reducible repeat (first | refine blk_drewN ?_ _ | refine blk_drew ?_ | refine blk_alloc ?_ _)); refine blk_far ?_ NB302_301.out _; (with_reducible repeat (first | refine blk_drewN ?_ _ | refine blk_drew ?_ | refine blk_alloc ?_ _)); refine blk_far ?_ NB302_363.out _; (with_reducible repeat (first | refine blk_drewN ?_ _ | refine blk_drew ?_ | refine blk_alloc ?_ _)); refine blk_far ?_ NB302_363.out _; (with_reducible repeat (first | refine blk_drewN ?_ _ | refine blk_drew ?_ | refine blk_alloc ?_ _)); refine blk_far ?_ NB302_363.out _; (with_reducible repeat (first | refine blk_drewN ?_ _ | refine blk_drew ?_ | refine blk_alloc ?_ _)); refine blk_far ?_ NB302_363.out _; (with_reducible repeat (first | refine blk_drewN ?_ _ | refine blk_drew ?_ | refine blk_alloc ?_ _)); refine blk_far ?_ NB302_363.out _; (with_reducible repeat (first | refine blk_drewN ?_ _ | refine blk_drew ?_ | refine blk_alloc ?_ _)); refine blk_far ?_ NB302_363.out _; (with_reducible repeat (first | refine blk_drewN ?_ _ | refine blk_drew ?_ | refine blk_alloc ?_ _)); exact BK302.out⟩, ⟨by (with_reducible repeat (first | refine blk_drewN ?_ _ | refine blk_drew ?_ | refine blk_alloc ?_ _)); refine blk_far ?_ NB305_302.out _; (with_reducible repeat (first | refine blk_drewN ?_ _ | refine blk_drew ?_ | refine blk_alloc ?_ _)); refine blk_far ?_ NB305_302.out _; (with_reducible repeat (first | refine blk_drewN ?_ _ | refine blk_drew ?_ | refine blk_alloc ?_ _)); refine blk_far ?_ NB305_302.out _; (with_reducible repeat (first | refine blk_drewN ?_ _ | refine blk_drew ?_ | refine blk_alloc ?_ _)); refine blk_far ?_ NB305_302.out _; (with_reducible repeat (first | refine blk_drewN ?_ _ | refine blk_drew ?_ | refine blk_alloc ?_ _)); refine blk_far ?_ NB305_302.out _; (with_reducible repeat (first | refine blk_drewN ?_ _ | refine blk_drew ?_ | refine blk_alloc ?_ _)); refine blk_far ?_ NB305_302.out _; (with_reducible repeat (first | refine blk_drewN ?_ _ | refine blk_drew ?_ | refine blk_alloc ?_ _)); refine blk_far ?_ NB305_301.out _; (with_reducible repeat (first | refine blk_drewN ?_ _ | refine blk_drew ?_ | refine blk_alloc ?_ _)); refine blk_far ?_ NB305_301.out _; (with_reducible repeat (first | refine blk_drewN ?_ _ | refine blk_drew ?_ | refine blk_alloc ?_ _)); refine blk_far ?_ NB305_301.out _; (with_reducible repeat (first | refine blk_drewN ?_ _ | refine blk_drew ?_ | refine blk_alloc ?_ _)); refine blk_far ?_ NB305_301.out _; (with_reducible repeat (first | refine blk_drewN ?_ _ | refine blk_drew ?_ | refine blk_alloc ?_ _)); refine blk_far ?_ NB305_301.out _; (with_reducible repeat (first | refine blk_drewN ?_ _ | refine blk_drew ?_ | refine blk_alloc ?_ _)); refine blk_far ?_ NB305_301.out _; (with_reducible repeat (first | refine blk_drewN ?_ _ | refine blk_drew ?_ | refine blk_alloc ?_ _)); refine blk_far ?_ NB305_363.out _; (with_reducible repeat (first | refine blk_drewN ?_ _ | refine blk_drew ?_ | refine blk_alloc ?_ _)); refine blk_far ?_ NB305_363.out _; (with_reducible repeat (first | refine blk_drewN ?_ _ | refine blk_drew ?_ | refine blk_alloc ?_ _)); refine blk_far ?_ NB305_363.out _; (with_reducible repeat (first | refine blk_drewN ?_ _ | refine blk_drew ?_ | refine blk_alloc ?_ _)); refine blk_far ?_ NB305_363.out _; (with_reducible repeat (first | refine blk_drewN ?_ _ | refine blk_drew ?_ | refine blk_alloc ?_ _)); refine blk_far ?_ NB305_363.out _; (with_reducible repeat (first | refine blk_drewN ?_ _ | refine blk_drew ?_ | refine blk_alloc ?_ _)); refine blk_far ?_ NB305_363.out _; (with_reducible repeat (first | refine blk_drewN ?_ _ | refine blk_drew ?_ | refine blk_alloc ?_ _)); exact BK305.out⟩, ⟨by repeat (first | (with_reducible first | exact HB.out | apply below_alloc | apply pw_below_drewN | apply below_drew1 | refine below_set ?_ GE301.out | refine below_set ?_ GE302.out | refine below_set ?_ GE305.out | refine below_set ?_ GE355.out | refine below_set ?_ GE363.out) | exact HB.out)⟩⟩
                case rest =>
                  clear HC9
                  try clear c1
                  try clear c2
                  try clear p2
                  try clear c3
                  try clear p3
                  try clear q3
                  try clear hx3
                  try clear c4
                  try clear c5
                  try clear c5b0
                  try clear c6
                  try clear p6
                  try clear c7
                  try clear c7b0
                  try clear c8
                  try clear c8b0
                  try clear c11
                  try clear c12
                  try clear c13
                  try clear c14
                  try clear c15
                  try clear c15b0
                  try clear c15b1
                  try clear c16
                  try clear c17
                  try clear c18
                  try clear c19
                  try clear c20
                  try clear c22
                  try clear c30
                  try clear c30b0
                  try clear c30b1
                  try clear p30
                  try clear q30
                  try clear hx30
                  try clear c33
                  try clear c34
                  try clear c36
                  try clear c44
                  try clear c44b0
                  try clear c44b1
                  try clear c47
                  try clear c48
                  try clear c50
                  try clear c60
                  try clear c61
                  try clear c63
                  try clear p64
                  try clear c67
                  try clear c68
                  try clear c69
                  try clear c75
                  try clear c76
                  try clear c77
                  try clear c78
                  try clear hcz13_0
                  try clear hcz13_1
                  try clear hcz13_2
                  try clear hcz13_3
                  try clear hcz21_0
                  try clear hcz21_1
                  try clear hcz21_2
                  try clear hcz21_3
                  try clear hcz21_4
                  try clear hcz21_5
                  try clear hcz23_0
                  try clear hcz23_1
                  try clear hcz23_2
                  try clear hcz23_3
                  try clear hcz25_0
                  try clear hcz25_1
                  try clear hcz25_2
                  try clear hcz25_3
                  try clear hcz25_4
                  try clear hcz25_5
                  try clear hcz26_0
                  try clear hcz26_1
                  try clear hcz26_2
                  try clear hcz26_3
                  try clear hcz26_4
                  try clear hcz26_5
                  try clear hcz27_0
                  try clear hcz27_1
                  try clear hcz27_2
                  try clear hcz27_3
                  try clear hcz29_0
                  try clear hcz29_1
                  try clear hcz29_2
                  try clear hcz29_3
                  try clear hcz29_4
                  try clear hcz29_5
                  try clear hcz35_0
                  try clear hcz35_1
                  try clear hcz35_2
                  try clear hcz35_3
                  try clear hcz35_4
                  try clear hcz35_5
                  try clear hcz37_0
                  try clear hcz37_1
                  try clear hcz37_2
                  try clear hcz37_3
                  try clear hcz39_0
                  try clear hcz39_1
                  try clear hcz39_2
                  try clear hcz39_3
                  try clear hcz39_4
                  try clear hcz39_5
                  try clear hcz40_0
                  try clear hcz40_1
                  try clear hcz40_2
                  try clear hcz40_3
                  try clear hcz40_4
                  try clear hcz40_5
                  try clear hcz41_0
                  try clear hcz41_1
                  try clear hcz41_2
                  try clear hcz41_3
                  try clear hcz43_0
                  try clear hcz43_1
                  try clear hcz43_2
                  try clear hcz43_3
                  try clear hcz43_4
                  try clear hcz43_5
                  try clear hcz49_0
                  try clear hcz49_1
                  try clear hcz49_2
                  try clear hcz49_3
                  try clear hcz49_4
                  try clear hcz49_5
                  try clear hcz51_0
                  try clear hcz51_1
                  try clear hcz51_2
                  try clear hcz51_3
                  try clear hcz53_0
                  try clear hcz53_1
                  try clear hcz53_2
                  try clear hcz53_3
                  try clear hcz53_4
                  try clear hcz53_5
                  try clear hcz54_0
                  try clear hcz54_1
                  try clear hcz54_2
                  try clear hcz54_3
                  try clear hcz54_4
                  try clear hcz54_5
                  try clear hcz55_0
                  try clear hcz55_1
                  try clear hcz55_2
                  try clear hcz55_3
                  try clear hcz57_0
                  try clear hcz57_1
                  try clear hcz57_2
                  try clear hcz57_3
                  try clear hcz57_4
                  try clear hcz57_5
                  try clear hcz62_0
                  try clear hcz62_1
                  try clear hcz62_2
                  try clear hcz62_3
                  try clear hcz62_4
                  try clear hcz62_5
                  try clear hcz64_0
                  try clear hcz64_1
                  try clear hcz64_2
                  try clear hcz64_3
                  try clear hcz70_0
                  try clear hcz70_1
                  try clear hcz70_2
                  try clear hcz70_3
                  try clear hcz70_4
                  try clear hcz70_5
                  try clear hcz71_0
                  try clear hcz71_1
                  try clear hcz71_2
                  try clear hcz71_3
                  try clear hcz71_4
                  try clear hcz71_5
                  try clear hcz72_0
                  try clear hcz72_1
                  try clear hcz72_2
                  try clear hcz72_3
                  try clear hcz79_0
                  try clear hcz79_1
                  try clear hcz79_2
                  try clear hcz79_3
                  try clear hcz79_4
                  try clear hcz79_5
                  try clear hcz80_0
                  try clear hcz80_1
                  try clear hcz80_2
                  try clear hcz80_3
                  try clear hcz80_4
                  try clear hcz80_5
                  try clear hcz81_0
                  try clear hcz81_1
                  try clear hcz81_2
                  try clear hcz81_3
                  try clear hcz81_4
                  try clear hcz81_5
                  try clear hcz82_0
                  try clear hcz82_1
                  try clear hcz82_2
                  try clear hcz82_3
                  try clear hcz82_4
                  try clear hcz82_5
                  try clear hfz13_0
                  try clear hfz13_1
                  try clear hfz13_2
                  try clear hfz13_3
                  try clear hfz21_0
                  try clear hfz21_1
                  try clear hfz21_2
                  try clear hfz21_3
                  try clear hfz21_4
                  try clear hfz21_5
                  try clear hfz23_0
                  try clear hfz23_1
                  try clear hfz23_2
                  try clear hfz23_3
                  try clear hfz25_0
                  try clear hfz25_1
                  try clear hfz25_2
                  try clear hfz25_3
                  try clear hfz25_4
                  try clear hfz25_5
                  try clear hfz26_0
                  try clear hfz26_1
                  try clear hfz26_2
                  try clear hfz26_3
                  try clear hfz26_4
                  try clear hfz26_5
                  try clear hfz27_0
                  try clear hfz27_1
                  try clear hfz27_2
                  try clear hfz27_3
                  try clear hfz29_0
                  try clear hfz29_1
                  try clear hfz29_2
                  try clear hfz29_3
                  try clear hfz29_4
                  try clear hfz29_5
                  try clear hfz35_0
                  try clear hfz35_1
                  try clear hfz35_2
                  try clear hfz35_3
                  try clear hfz35_4
                  try clear hfz35_5
                  try clear hfz37_0
                  try clear hfz37_1
                  try clear hfz37_2
                  try clear hfz37_3
                  try clear hfz39_0
                  try clear hfz39_1
                  try clear hfz39_2
                  try clear hfz39_3
                  try clear hfz39_4
                  try clear hfz39_5
                  try clear hfz40_0
                  try clear hfz40_1
                  try clear hfz40_2
                  try clear hfz40_3
                  try clear hfz40_4
                  try clear hfz40_5
                  try clear hfz41_0
                  try clear hfz41_1
                  try clear hfz41_2
                  try clear hfz41_3
                  try clear hfz43_0
                  try clear hfz43_1
                  try clear hfz43_2
                  try clear hfz43_3
                  try clear hfz43_4
                  try clear hfz43_5
                  try clear hfz49_0
                  try clear hfz49_1
                  try clear hfz49_2
                  try clear hfz49_3
                  try clear hfz49_4
                  try clear hfz49_5
                  try clear hfz51_0
                  try clear hfz51_1
                  try clear hfz51_2
                  try clear hfz51_3
                  try clear hfz53_0
                  try clear hfz53_1
                  try clear hfz53_2
                  try clear hfz53_3
                  try clear hfz53_4
                  try clear hfz53_5
                  try clear hfz54_0
                  try clear hfz54_1
                  try clear hfz54_2
                  try clear hfz54_3
                  try clear hfz54_4
                  try clear hfz54_5
                  try clear hfz55_0
                  try clear hfz55_1
                  try clear hfz55_2
                  try clear hfz55_3
                  try clear hfz57_0
                  try clear hfz57_1
                  try clear hfz57_2
                  try clear hfz57_3
                  try clear hfz57_4
                  try clear hfz57_5
                  try clear hfz62_0
                  try clear hfz62_1
                  try clear hfz62_2
                  try clear hfz62_3
                  try clear hfz62_4
                  try clear hfz62_5
                  try clear hfz64_0
                  try clear hfz64_1
                  try clear hfz64_2
                  try clear hfz64_3
                  try clear hfz70_0
                  try clear hfz70_1
                  try clear hfz70_2
                  try clear hfz70_3
                  try clear hfz70_4
                  try clear hfz70_5
                  try clear hfz71_0
                  try clear hfz71_1
                  try clear hfz71_2
                  try clear hfz71_3
                  try clear hfz71_4
                  try clear hfz71_5
                  try clear hfz72_0
                  try clear hfz72_1
                  try clear hfz72_2
                  try clear hfz72_3
                  try clear hfz79_0
                  try clear hfz79_1
                  try clear hfz79_2
                  try clear hfz79_3
                  try clear hfz79_4
                  try clear hfz79_5
                  try clear hfz80_0
                  try clear hfz80_1
                  try clear hfz80_2
                  try clear hfz80_3
                  try clear hfz80_4
                  try clear hfz80_5
                  try clear hfz81_0
                  try clear hfz81_1
                  try clear hfz81_2
                  try clear hfz81_3
                  try clear hfz81_4
                  try clear hfz81_5
                  try clear hfz82_0
                  try clear hfz82_1
                  try clear hfz82_2
                  try clear hfz82_3
                  try clear hfz82_4
                  try clear hfz82_5
                  try clear hx304_0
                  try clear hx304_1
                  try clear hx304_2
                  try clear hx304_3
                  try clear p2
                  try clear p3
                  try clear p304
                  try clear q3
                  try clear q304
                  obtain ⟨kq, x7_8, x8_8, x302000_8, x302001_8, x302002_8, x302003_8, x302004_8, x302005_8, x303000_8, x303001_8, x303002_8, x303003_8, x303004_8, x303005_8, rfl, rfl, HA, HJ8, BK301, BK302, BK305, HB⟩ := hcut
                  cases kq with
                  | zero => exact absurd HA.out (by simp [marqueelaw05_CharsetPlays.j3])
                  | succ kj8 =>
                    have H := HA.out
                    clear HA
                    simp only [marqueelaw05_CharsetPlays.j3] at H
                    by_cases c83 : (x7_8 != x8_8) = true
                    · rw [if_pos c83] at H
                      have c83b0 : (x7_8 != x8_8) = true := c83
                      (try (have c83b1 : decide (x7_8 = x8_8) = false := by simpa using c83))
                      (try (have c83b2 : (x7_8 == x8_8) = false := by simpa using c83))
                      (try (have c83b3 : ¬ (x7_8 = x8_8) := by simpa using c83))
                      clear c83
                      obtain rfl := Option.some.inj H
                      exact absurd hT_ (by decide)
                    · rw [if_neg c83] at H
                      have c83b0 : (x7_8 != x8_8) = false := by simpa using c83
                      (try (have c83b1 : decide (x7_8 = x8_8) = true := by simpa using c83))
                      (try (have c83b2 : (x7_8 == x8_8) = true := by simpa using c83))
                      clear c83
                      replace H := Option.bind_eq_some_iff.mp H
                      obtain ⟨⟨t364, t365, t366, t367⟩, A840, H⟩ := H
                      replace H : (if (!(t364 == x303000_8) || (!(t365 == x303001_8) || (!(t366 == x303002_8) || (!(t367 == x303003_8))))) = true then (some false) else ((charset_Choice_Now.f x302000_8 x302001_8 x302002_8 x302003_8 x302004_8 x302005_8).bind fun t368 => ((marqueeref05_Choice_Now.f x303000_8 x303001_8 x303002_8 x303003_8 x303004_8 x303005_8).bind fun t369 => (if t368 = t369 then (marqueelaw05_CharsetPlays.l0 kj8 l0 (wrap64 (x5_1 + 1)) x302000_8 x302001_8 x302002_8 x302003_8 x302004_8 x302005_8 x303000_8 x303001_8 x303002_8 x303003_8 x303004_8 x303005_8) else (some false))))) = some r := H
                      have A84 := Aside0.mk A840
                      clear A840
                      by_cases c85 : (!(t364 == x303000_8) || (!(t365 == x303001_8) || (!(t366 == x303002_8) || (!(t367 == x303003_8))))) = true
                      · rw [if_pos c85] at H
                        have c85b0 : (!(t364 == x303000_8) || (!(t365 == x303001_8) || (!(t366 == x303002_8) || (!(t367 == x303003_8))))) = true := c85
                        clear c85
                        obtain rfl := Option.some.inj H
                        exact absurd hT_ (by decide)
                      · rw [if_neg c85] at H
                        have c85b0 : (!(t364 == x303000_8) || (!(t365 == x303001_8) || (!(t366 == x303002_8) || (!(t367 == x303003_8))))) = false := by simpa using c85
                        clear c85
                        replace H := Option.bind_eq_some_iff.mp H
                        obtain ⟨t368, A860, H⟩ := H
                        replace H : ((marqueeref05_Choice_Now.f x303000_8 x303001_8 x303002_8 x303003_8 x303004_8 x303005_8).bind fun t369 => (if t368 = t369 then (marqueelaw05_CharsetPlays.l0 kj8 l0 (wrap64 (x5_1 + 1)) x302000_8 x302001_8 x302002_8 x302003_8 x302004_8 x302005_8 x303000_8 x303001_8 x303002_8 x303003_8 x303004_8 x303005_8) else (some false))) = some r := H
                        have A86 := Aside0.mk A860
                        clear A860
                        replace H := Option.bind_eq_some_iff.mp H
                        obtain ⟨t369, A870, H⟩ := H
                        replace H : (if t368 = t369 then (marqueelaw05_CharsetPlays.l0 kj8 l0 (wrap64 (x5_1 + 1)) x302000_8 x302001_8 x302002_8 x302003_8 x302004_8 x302005_8 x303000_8 x303001_8 x303002_8 x303003_8 x303004_8 x303005_8) else (some false)) = some r := H
                        have A87 := Aside0.mk A870
                        clear A870
                        by_cases c88 : t368 = t369
                        · rw [if_pos c88] at H
                          have c88b0 : (t368 == t369) = true := beq_iff_eq.mpr c88
                          have c88b1 : (t368 != t369) = false := bne_eq_false_iff_eq.mpr c88
                          clear c88
                          have H' := Aside0.mk H
                          clear H
                          try go_wp2
                          have n0_ := Aside0.mk (blk_drew BK301.out)
                          have n1_ := Aside0.mk (blk_drew BK302.out)
                          have n2_ := Aside0.mk (blk_drew BK305.out)
                          have n3_ := Aside0.mk (below_drew1 HB.out)
                          clear BK301
                          clear BK302
                          clear BK305
                          clear HB
                          have BK301 := n0_
                          have BK302 := n1_
                          have BK305 := n2_
                          have HB := n3_
                          clear n0_ n1_ n2_ n3_
                          refine start_ (n := 17) (S := fun w' => w'.cell? ⟨gb301, 0, none⟩ = some (.int .u8 x302000_8) ∧ w'.cell? ⟨gb301, 1, none⟩ = some (.int .u8 x302001_8) ∧ w'.cell? ⟨gb301, 2, none⟩ = some (.int .u8 x302002_8) ∧ w'.cell? ⟨gb301, 3, none⟩ = some (.int .u8 x302003_8) ∧ w'.cell? ⟨gb301, 4, none⟩ = some (.int .u8 x302004_8) ∧ w'.cell? ⟨gb301, 5, none⟩ = some (.int .u8 x302005_8) ∧ w'.cell? ⟨gb302, 0, none⟩ = some (.int .i64 x303000_8) ∧ w'.cell? ⟨gb302, 1, none⟩ = some (.int .i64 x303001_8) ∧ w'.cell? ⟨gb302, 2, none⟩ = some (.int .i64 x303002_8) ∧ w'.cell? ⟨gb302, 3, none⟩ = some (.int .i64 x303003_8) ∧ w'.cell? ⟨gb302, 4, none⟩ = some (.int .i64 x303004_8) ∧ w'.cell? ⟨gb302, 5, none⟩ = some (.int .i64 x303005_8)) (ds := []) #[false, false, false, false, false, false, false, false, false, false, false, false, false, false, false, false, false] (by kernel_rfl) rfl rfl ⟨(blk_cell BK301.out 0).trans rfl, (blk_cell BK301.out 1).trans rfl, (blk_cell BK301.out 2).trans rfl, (blk_cell BK301.out 3).trans rfl, (blk_cell BK301.out 4).trans rfl, (blk_cell BK301.out 5).trans rfl, (blk_cell BK302.out 0).trans rfl, (blk_cell BK302.out 1).trans rfl, (blk_cell BK302.out 2).trans rfl, (blk_cell BK302.out 3).trans rfl, (blk_cell BK302.out 4).trans rfl, (blk_cell BK302.out 5).trans rfl⟩ (fun hHeld => ?_); refine with_tabW marqueelaw05_CharsetPlays.tab24 marqueelaw05_CharsetPlays.bits24 (fun HT_ HW_ => ?_)
                          generalize wc.drew = w89 at BK301 BK302 BK305 HB hHeld ⊢
                          refine pure_ (i := 0) (N := some 106) (v := ?_) (a' := ?_) #[true, false, false, false, false, false, false, false, false, false, false, false, false, false, false, false, false] rfl rfl (any_of HT_.out (by kernel_rfl)) (fun _ _ _ h => h) (Or.inl ⟨by rfl, ?_⟩) ?_ ?_
                          rotate_left
                          · intro w'
                            go_simp
                            with_reducible rfl
                          rotate_left
                          · simp only [Act.put, List.setIfInBounds_toArray, List.set_cons_zero, List.set_cons_succ, i64_w, i32_w]
                            rfl
                          refine pure_ (i := 1) (N := some 107) (v := ?_) (a' := ?_) #[true, true, false, false, false, false, false, false, false, false, false, false, false, false, false, false, false] rfl rfl (any_of HT_.out (by kernel_rfl)) (fun _ _ _ h => h) (Or.inl ⟨by rfl, ?_⟩) ?_ ?_
                          rotate_left
                          · intro w'
                            go_simp
                            with_reducible rfl
                          rotate_left
                          · simp only [Act.put, List.setIfInBounds_toArray, List.set_cons_zero, List.set_cons_succ, i64_w, i32_w]
                            rfl
                          refine pure_ (i := 2) (N := some 108) (v := ?_) (a' := ?_) #[true, true, true, false, false, false, false, false, false, false, false, false, false, false, false, false, false] rfl rfl (any_of HT_.out (by kernel_rfl)) (fun _ _ _ h => h) (Or.inl ⟨by rfl, ?_⟩) ?_ ?_
                          rotate_left
                          · intro w'
                            go_simp
                            with_reducible rfl
                          rotate_left
                          · simp only [Act.put, List.setIfInBounds_toArray, List.set_cons_zero, List.set_cons_succ, i64_w, i32_w]
                            rfl
                          refine pure_ (i := 3) (N := some 109) (v := ?_) (a' := ?_) #[true, true, true, true, false, false, false, false, false, false, false, false, false, false, false, false, false] rfl rfl (any_of HT_.out (by kernel_rfl)) (fun _ _ _ h => h) (Or.inl ⟨by rfl, ?_⟩) ?_ ?_
                          rotate_left
                          · intro w'
                            go_simp
                            with_reducible rfl
                          rotate_left
                          · simp only [Act.put, List.setIfInBounds_toArray, List.set_cons_zero, List.set_cons_succ, i64_w, i32_w]
                            rfl
                          refine pure_ (i := 6) (N := some 112) (v := ?_) (a' := ?_) #[true, true, true, true, false, false, true, false, false, false, false, false, false, false, false, false, false] rfl rfl (any_of HT_.out (by kernel_rfl)) (fun _ _ _ h => h) (Or.inl ⟨by rfl, ?_⟩) ?_ ?_
                          rotate_left
                          · intro w'
                            go_simp
                            with_reducible rfl
                          rotate_left
                          · simp only [Act.put, List.setIfInBounds_toArray, List.set_cons_zero, List.set_cons_succ, i64_w, i32_w]
                            rfl
                          refine take_ (i := 4) (N := some 110) (v := ?_) (a' := ?_) #[true, true, true, true, true, false, true, false, false, false, false, false, false, false, false, false, false] rfl rfl (take_ofW HT_.out HW_.out (by kernel_rfl)) (fun _ _ _ h => h) (Or.inl ⟨by rfl, ?_⟩) hHeld ?_ ?_
                          rotate_left
                          · rintro w' ⟨s0, s1, s2, s3, s4, s5, s6, s7, s8, s9, s10, s11⟩
                            go_simp
                            with_reducible rfl
                          rotate_left
                          · simp only [Act.put, List.setIfInBounds_toArray, List.set_cons_zero, List.set_cons_succ, i64_w, i32_w]
                            rfl
                          refine take_ (i := 7) (N := some 113) (v := ?_) (a' := ?_) #[true, true, true, true, true, false, true, true, false, false, false, false, false, false, false, false, false] rfl rfl (take_ofW HT_.out HW_.out (by kernel_rfl)) (fun _ _ _ h => h) (Or.inl ⟨by rfl, ?_⟩) hHeld ?_ ?_
                          rotate_left
                          · rintro w' ⟨s0, s1, s2, s3, s4, s5, s6, s7, s8, s9, s10, s11⟩
                            go_simp
                            with_reducible rfl
                          rotate_left
                          · simp only [Act.put, List.setIfInBounds_toArray, List.set_cons_zero, List.set_cons_succ, i64_w, i32_w]
                            rfl
                          refine one_ (i := 5) (N := some 111) #[true, true, true, true, true, true, true, true, false, false, false, false, false, false, false, false, false] rfl rfl (one_of HT_.out (by kernel_rfl)) (by decide) (fun K hK => ?_)
                          refine goes_ Try.func21 (by kernel_rfl) rfl #[.agg #[.int .u8 x302000_8, .int .u8 x302001_8, .int .u8 x302002_8, .int .u8 x302003_8, .int .u8 x302004_8, .int .u8 x302005_8]] (by rfl) rfl rfl (by (try simp only [List.map_toArray, List.map_cons, List.map_nil]); first | done | rfl | (simp only [List.length_drop, List.length_take]; rfl)) ?_
                          with_reducible refine (charset_Choice_Sets.calls x302000_8 x302001_8 x302002_8 x302003_8 x302004_8 x302005_8 t364 t365 t366 t367 _ A84.out).mono ?_
                          rintro e w90 ⟨rfl, hb⟩
                          refine ⟨_, rfl, ?_⟩
                          have n0_ := Aside0.mk (blk_below (g := gb301) (o := .cells #[.int .u8 x302000_8, .int .u8 x302001_8, .int .u8 x302002_8, .int .u8 x302003_8, .int .u8 x302004_8, .int .u8 x302005_8] 32 (0, 0)) (by (with_reducible repeat (first | refine blk_drewN ?_ _ | refine blk_drew ?_ | refine blk_alloc ?_ _)); exact BK301.out) hb)
                          have n1_ := Aside0.mk (blk_below (g := gb302) (o := .cells #[.int .i64 x303000_8, .int .i64 x303001_8, .int .i64 x303002_8, .int .i64 x303003_8, .int .i64 x303004_8, .int .i64 x303005_8] 39 (0, 0)) (by (with_reducible repeat (first | refine blk_drewN ?_ _ | refine blk_drew ?_ | refine blk_alloc ?_ _)); exact BK302.out) hb)
                          have n2_ := Aside0.mk (blk_below (g := gb305) (o := .cells #[.int .u8 ((rd_T42 l0 x5_1).f0), .int .i8 ((rd_T42 l0 x5_1).f1), .int .u8 ((rd_T42 l0 x5_1).f2), .int .i32 ((rd_T42 l0 x5_1).f3)] 42 (0, 0)) (by (with_reducible repeat (first | refine blk_drewN ?_ _ | refine blk_drew ?_ | refine blk_alloc ?_ _)); exact BK305.out) hb)
                          have n3_ := Aside0.mk (below_step (by repeat (first | (with_reducible first | exact HB.out | apply below_alloc | apply pw_below_drewN | apply below_drew1 | refine below_set ?_ GE301.out | refine below_set ?_ GE302.out | refine below_set ?_ GE305.out) | exact HB.out)) hb)
                          clear BK301
                          clear BK302
                          clear BK305
                          clear HB
                          have BK301 := n0_
                          have BK302 := n1_
                          have BK305 := n2_
                          have HB := n3_
                          clear n0_ n1_ n2_ n3_
                          (try clear hb)
                          (try clear hb2)
                          (try clear hk)
                          (try clear hi)
                          refine hK.out _ _ ⟨(blk_cell BK301.out 0).trans rfl, (blk_cell BK301.out 1).trans rfl, (blk_cell BK301.out 2).trans rfl, (blk_cell BK301.out 3).trans rfl, (blk_cell BK301.out 4).trans rfl, (blk_cell BK301.out 5).trans rfl, (blk_cell BK302.out 0).trans rfl, (blk_cell BK302.out 1).trans rfl, (blk_cell BK302.out 2).trans rfl, (blk_cell BK302.out 3).trans rfl, (blk_cell BK302.out 4).trans rfl, (blk_cell BK302.out 5).trans rfl⟩ (fun hHeld => ?_)
                          clear hK K
                          refine norm_ (a' := ?_) ?_ ?_
                          rotate_left
                          · show Act.put _ (some 111) _ = _
                            simp only [Act.put, List.setIfInBounds_toArray, List.set_cons_zero, List.set_cons_succ, i64_w, i32_w]
                            rfl
                          refine pure_ (i := 8) (N := some 114) (v := ?_) (a' := ?_) #[true, true, true, true, true, true, true, true, true, false, false, false, false, false, false, false, false] rfl rfl (any_of HT_.out (by kernel_rfl)) (fun _ _ _ h => h) (Or.inl ⟨by rfl, ?_⟩) ?_ ?_
                          rotate_left
                          · intro w'
                            go_simp
                            with_reducible rfl
                          rotate_left
                          · simp only [Act.put, List.setIfInBounds_toArray, List.set_cons_zero, List.set_cons_succ, i64_w, i32_w]
                            rfl
                          refine pure_ (i := 9) (N := some 115) (v := ?_) (a' := ?_) #[true, true, true, true, true, true, true, true, true, true, false, false, false, false, false, false, false] rfl rfl (any_of HT_.out (by kernel_rfl)) (fun _ _ _ h => h) (Or.inl ⟨by rfl, ?_⟩) ?_ ?_
                          rotate_left
                          · intro w'
                            go_simp
                            with_reducible rfl
                          rotate_left
                          · simp only [Act.put, List.setIfInBounds_toArray, List.set_cons_zero, List.set_cons_succ, i64_w, i32_w]
                            rfl
                          refine pure_ (i := 10) (N := some 116) (v := ?_) (a' := ?_) #[true, true, true, true, true, true, true, true, true, true, true, false, false, false, false, false, false] rfl rfl (any_of HT_.out (by kernel_rfl)) (fun _ _ _ h => h) (Or.inl ⟨by rfl, ?_⟩) ?_ ?_
                          rotate_left
                          · intro w'
                            go_simp
                            with_reducible rfl
                          rotate_left
                          · simp only [Act.put, List.setIfInBounds_toArray, List.set_cons_zero, List.set_cons_succ, i64_w, i32_w]
                            rfl
                          refine take_ (i := 11) (N := some 117) (v := ?_) (a' := ?_) #[true, true, true, true, true, true, true, true, true, true, true, true, false, false, false, false, false] rfl rfl (take_ofW HT_.out HW_.out (by kernel_rfl)) (fun _ _ _ h => h) (Or.inl ⟨by rfl, ?_⟩) hHeld ?_ ?_
                          rotate_left
                          · rintro w' ⟨s0, s1, s2, s3, s4, s5, s6, s7, s8, s9, s10, s11⟩
                            go_simp
                            with_reducible rfl
                          rotate_left
                          · simp only [Act.put, List.setIfInBounds_toArray, List.set_cons_zero, List.set_cons_succ, i64_w, i32_w]
                            rfl
                          refine take_ (i := 13) (N := some 119) (v := ?_) (a' := ?_) #[true, true, true, true, true, true, true, true, true, true, true, true, false, true, false, false, false] rfl rfl (take_ofW HT_.out HW_.out (by kernel_rfl)) (fun _ _ _ h => h) (Or.inl ⟨by rfl, ?_⟩) hHeld ?_ ?_
                          rotate_left
                          · rintro w' ⟨s0, s1, s2, s3, s4, s5, s6, s7, s8, s9, s10, s11⟩
                            go_simp
                            with_reducible rfl
                          rotate_left
                          · simp only [Act.put, List.setIfInBounds_toArray, List.set_cons_zero, List.set_cons_succ, i64_w, i32_w]
                            rfl
                          refine one_ (i := 12) (N := some 118) #[true, true, true, true, true, true, true, true, true, true, true, true, true, true, false, false, false] rfl rfl (one_of HT_.out (by kernel_rfl)) (by decide) (fun K hK => ?_)
                          refine goes_ Try.func22 (by kernel_rfl) rfl #[.agg #[.int .u8 x302000_8, .int .u8 x302001_8, .int .u8 x302002_8, .int .u8 x302003_8, .int .u8 x302004_8, .int .u8 x302005_8]] (by rfl) rfl rfl (by (try simp only [List.map_toArray, List.map_cons, List.map_nil]); first | done | rfl | (simp only [List.length_drop, List.length_take]; rfl)) ?_
                          with_reducible refine (charset_Choice_Now.calls x302000_8 x302001_8 x302002_8 x302003_8 x302004_8 x302005_8 t368 _ A86.out).mono ?_
                          rintro e w91 ⟨rfl, hb⟩
                          refine ⟨_, rfl, ?_⟩
                          have n0_ := Aside0.mk (blk_below (g := gb301) (o := .cells #[.int .u8 x302000_8, .int .u8 x302001_8, .int .u8 x302002_8, .int .u8 x302003_8, .int .u8 x302004_8, .int .u8 x302005_8] 32 (0, 0)) (by (with_reducible repeat (first | refine blk_drewN ?_ _ | refine blk_drew ?_ | refine blk_alloc ?_ _)); exact BK301.out) hb)
                          have n1_ := Aside0.mk (blk_below (g := gb302) (o := .cells #[.int .i64 x303000_8, .int .i64 x303001_8, .int .i64 x303002_8, .int .i64 x303003_8, .int .i64 x303004_8, .int .i64 x303005_8] 39 (0, 0)) (by (with_reducible repeat (first | refine blk_drewN ?_ _ | refine blk_drew ?_ | refine blk_alloc ?_ _)); exact BK302.out) hb)
                          have n2_ := Aside0.mk (blk_below (g := gb305) (o := .cells #[.int .u8 ((rd_T42 l0 x5_1).f0), .int .i8 ((rd_T42 l0 x5_1).f1), .int .u8 ((rd_T42 l0 x5_1).f2), .int .i32 ((rd_T42 l0 x5_1).f3)] 42 (0, 0)) (by (with_reducible repeat (first | refine blk_drewN ?_ _ | refine blk_drew ?_ | refine blk_alloc ?_ _)); exact BK305.out) hb)
                          have n3_ := Aside0.mk (below_step (by repeat (first | (with_reducible first | exact HB.out | apply below_alloc | apply pw_below_drewN | apply below_drew1 | refine below_set ?_ GE301.out | refine below_set ?_ GE302.out | refine below_set ?_ GE305.out) | exact HB.out)) hb)
                          clear BK301
                          clear BK302
                          clear BK305
                          clear HB
                          have BK301 := n0_
                          have BK302 := n1_
                          have BK305 := n2_
                          have HB := n3_
                          clear n0_ n1_ n2_ n3_
                          (try clear hb)
                          (try clear hb2)
                          (try clear hk)
                          (try clear hi)
                          refine hK.out _ _ ⟨(blk_cell BK301.out 0).trans rfl, (blk_cell BK301.out 1).trans rfl, (blk_cell BK301.out 2).trans rfl, (blk_cell BK301.out 3).trans rfl, (blk_cell BK301.out 4).trans rfl, (blk_cell BK301.out 5).trans rfl, (blk_cell BK302.out 0).trans rfl, (blk_cell BK302.out 1).trans rfl, (blk_cell BK302.out 2).trans rfl, (blk_cell BK302.out 3).trans rfl, (blk_cell BK302.out 4).trans rfl, (blk_cell BK302.out 5).trans rfl⟩ (fun hHeld => ?_)
                          clear hK K
                          refine norm_ (a' := ?_) ?_ ?_
                          rotate_left
                          · show Act.put _ (some 118) _ = _
                            simp only [Act.put, List.setIfInBounds_toArray, List.set_cons_zero, List.set_cons_succ, i64_w, i32_w]
                            rfl
                          refine one_ (i := 14) (N := some 120) #[true, true, true, true, true, true, true, true, true, true, true, true, true, true, true, false, false] rfl rfl (one_of HT_.out (by kernel_rfl)) (by decide) (fun K hK => ?_)
                          refine goes_ Try.func23 (by kernel_rfl) rfl #[.agg #[.int .i64 x303000_8, .int .i64 x303001_8, .int .i64 x303002_8, .int .i64 x303003_8, .int .i64 x303004_8, .int .i64 x303005_8]] (by rfl) rfl rfl (by (try simp only [List.map_toArray, List.map_cons, List.map_nil]); first | done | rfl | (simp only [List.length_drop, List.length_take]; rfl)) ?_
                          with_reducible refine (marqueeref05_Choice_Now.calls x303000_8 x303001_8 x303002_8 x303003_8 x303004_8 x303005_8 t369 _ A87.out).mono ?_
                          rintro e w92 ⟨rfl, hb⟩
                          refine ⟨_, rfl, ?_⟩
                          have n0_ := Aside0.mk (blk_below (g := gb301) (o := .cells #[.int .u8 x302000_8, .int .u8 x302001_8, .int .u8 x302002_8, .int .u8 x302003_8, .int .u8 x302004_8, .int .u8 x302005_8] 32 (0, 0)) (by (with_reducible repeat (first | refine blk_drewN ?_ _ | refine blk_drew ?_ | refine blk_alloc ?_ _)); exact BK301.out) hb)
                          have n1_ := Aside0.mk (blk_below (g := gb302) (o := .cells #[.int .i64 x303000_8, .int .i64 x303001_8, .int .i64 x303002_8, .int .i64 x303003_8, .int .i64 x303004_8, .int .i64 x303005_8] 39 (0, 0)) (by (with_reducible repeat (first | refine blk_drewN ?_ _ | refine blk_drew ?_ | refine blk_alloc ?_ _)); exact BK302.out) hb)
                          have n2_ := Aside0.mk (blk_below (g := gb305) (o := .cells #[.int .u8 ((rd_T42 l0 x5_1).f0), .int .i8 ((rd_T42 l0 x5_1).f1), .int .u8 ((rd_T42 l0 x5_1).f2), .int .i32 ((rd_T42 l0 x5_1).f3)] 42 (0, 0)) (by (with_reducible repeat (first | refine blk_drewN ?_ _ | refine blk_drew ?_ | refine blk_alloc ?_ _)); exact BK305.out) hb)
                          have n3_ := Aside0.mk (below_step (by repeat (first | (with_reducible first | exact HB.out | apply below_alloc | apply pw_below_drewN | apply below_drew1 | refine below_set ?_ GE301.out | refine below_set ?_ GE302.out | refine below_set ?_ GE305.out) | exact HB.out)) hb)
                          clear BK301
                          clear BK302
                          clear BK305
                          clear HB
                          have BK301 := n0_
                          have BK302 := n1_
                          have BK305 := n2_
                          have HB := n3_
                          clear n0_ n1_ n2_ n3_
                          (try clear hb)
                          (try clear hb2)
                          (try clear hk)
                          (try clear hi)
                          refine hK.out _ _ ⟨(blk_cell BK301.out 0).trans rfl, (blk_cell BK301.out 1).trans rfl, (blk_cell BK301.out 2).trans rfl, (blk_cell BK301.out 3).trans rfl, (blk_cell BK301.out 4).trans rfl, (blk_cell BK301.out 5).trans rfl, (blk_cell BK302.out 0).trans rfl, (blk_cell BK302.out 1).trans rfl, (blk_cell BK302.out 2).trans rfl, (blk_cell BK302.out 3).trans rfl, (blk_cell BK302.out 4).trans rfl, (blk_cell BK302.out 5).trans rfl⟩ (fun hHeld => ?_)
                          clear hK K
                          refine norm_ (a' := ?_) ?_ ?_
                          rotate_left
                          · show Act.put _ (some 120) _ = _
                            simp only [Act.put, List.setIfInBounds_toArray, List.set_cons_zero, List.set_cons_succ, i64_w, i32_w]
                            rfl
                          refine pure_ (i := 15) (N := some 121) (v := ?_) (a' := ?_) #[true, true, true, true, true, true, true, true, true, true, true, true, true, true, true, true, false] rfl rfl (any_of HT_.out (by kernel_rfl)) (fun _ _ _ h => h) (Or.inl ⟨by rfl, ?_⟩) ?_ ?_
                          rotate_left
                          · intro w'
                            go_simp
                            with_reducible rfl
                          rotate_left
                          · simp only [Act.put, List.setIfInBounds_toArray, List.set_cons_zero, List.set_cons_succ, i64_w, i32_w]
                            rfl
                          refine pure_ (i := 16) (N := some 122) (v := ?_) (a' := ?_) #[true, true, true, true, true, true, true, true, true, true, true, true, true, true, true, true, true] rfl rfl (any_of HT_.out (by kernel_rfl)) (fun _ _ _ h => h) (Or.inl ⟨by rfl, ?_⟩) ?_ ?_
                          rotate_left
                          · intro w'
                            go_simp
                            with_reducible rfl
                          rotate_left
                          · simp only [Act.put, List.setIfInBounds_toArray, List.set_cons_zero, List.set_cons_succ, i64_w, i32_w]
                            rfl
                          refine done_ (done_of HT_.out (by kernel_rfl)) ?_
                          try go_wp2
                          go_roundg kj8
                          case measure => have := HK1.out; have := HJ3.out; have := HJ8.out; omega
                          case rel => exact ⟨(wrap64 (x5_1 + 1)), (x302000_8), (x302001_8), (x302002_8), (x302003_8), (x302004_8), (x302005_8), (x303000_8), (x303001_8), (x303002_8), (x303003_8), (x303004_8), (x303005_8), (by first | rfl | (simp; done) | (simp [*]; done)), H', ⟨by have := HK1.out; have := HJ3.out; have := HJ8.out; omega⟩, ⟨by (with_reducible repeat (first | refine blk_drewN ?_ _ | refine blk_drew ?_ | refine blk_alloc ?_ _)); exact BK301.out⟩, ⟨by (with_reducible repeat (first | refine blk_drewN ?_ _ | refine blk_drew ?_ | refine blk_alloc ?_ _)); exact BK302.out⟩, ⟨by repeat (first | (with_reducible first | exact HB.out | apply below_alloc | apply pw_below_drewN | apply below_drew1 | refine below_set ?_ GE301.out | refine below_set ?_ GE302.out | refine below_set ?_ GE305.out) | exact HB.out)⟩⟩
                        · rw [if_neg c88] at H
                          have c88b0 : (t368 == t369) = false := beq_eq_false_iff_ne.mpr c88
                          have c88b1 : (t368 != t369) = true := bne_iff_ne.mpr c88
                          obtain rfl := Option.some.inj H
                          exact absurd hT_ (by decide)
              · rw [if_neg c8] at H
                exact absurd H (by simp)
            · rw [if_neg c7] at H
              exact absurd H (by simp)
          · replace c6 := Bool.eq_false_iff.mpr c6
            subst c6
            have H1 : ((marqueelaw05_works.f kj3).bind fun t303 => (some t303)) = some r := by rw [if_neg (show ¬ (false = true) by decide)] at H; exact H
            clear H
            have H := H1
            clear H1
            replace H := Option.bind_eq_some_iff.mp H
            obtain ⟨t303, A930, H⟩ := H
            replace H : (some t303) = some r := H
            have A93 := Aside0.mk A930
            clear A930
            obtain rfl := Option.some.inj H
            go_wp2_with (first | ((with_reducible refine gate_callee (f := 11) rfl ?_); refine goesL_ (some 123) rfl rfl Try.func11 (by kernel_rfl) rfl #[] rfl (by (try simp only [List.map_toArray, List.map_cons, List.map_nil]); first | done | rfl | (simp only [List.length_drop, List.length_take]; rfl)) ?_; (with_reducible refine (marqueelaw05_works.calls kj3  t303 _ A93.out (by first | rfl | exact hT_ | assumption)).mono ?_); rintro e w94 ⟨rfl, hb⟩; refine ⟨_, rfl, ?_⟩; have n0_ := Aside0.mk (blk_below (g := gb301) (o := .cells #[.int .u8 x302000_1, .int .u8 x302001_1, .int .u8 x302002_1, .int .u8 x302003_1, .int .u8 x302004_1, .int .u8 x302005_1] 32 (0, 0)) (by (with_reducible repeat (first | refine blk_drewN ?_ _ | refine blk_drew ?_ | refine blk_alloc ?_ _)); exact BK301.out) hb); have n1_ := Aside0.mk (blk_below (g := gb302) (o := .cells #[.int .i64 x303000_1, .int .i64 x303001_1, .int .i64 x303002_1, .int .i64 x303003_1, .int .i64 x303004_1, .int .i64 x303005_1] 39 (0, 0)) (by (with_reducible repeat (first | refine blk_drewN ?_ _ | refine blk_drew ?_ | refine blk_alloc ?_ _)); exact BK302.out) hb); have n2_ := Aside0.mk (below_step (by repeat (first | (with_reducible first | exact HB.out | apply below_alloc | apply pw_below_drewN | apply below_drew1 | refine below_set ?_ GE301.out | refine below_set ?_ GE302.out) | exact HB.out)) hb); clear BK301; clear BK302; clear HB; have BK301 := n0_; have BK302 := n1_; have HB := n2_; clear n0_ n1_ n2_; (try clear hb); (try clear hb2); (try clear hk); (try clear hi)))
            go_ret
            exact ⟨by first | rfl | (simp [errW_none, errW_some] <;> rfl) | (simp [*, errW_none, errW_some] <;> rfl), by repeat (first | (with_reducible first | exact HB.out | apply below_alloc | apply pw_below_drewN | apply below_drew1 | refine below_set ?_ GE301.out | refine below_set ?_ GE302.out) | exact HB.out)⟩

end Go.Proofs.Ytkhdobhcnhaokaa.All
