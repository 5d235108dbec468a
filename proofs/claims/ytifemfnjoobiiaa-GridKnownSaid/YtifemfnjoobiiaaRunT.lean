/- Loops over maps: whichever order is drawn, the rounds end where the small code's own rounds end. No statement of the program's is proved here. -/
import Derived.Test.YtifemfnjoobiiaaRunO
import Derived.Maps.RangeRun
namespace Go.Proofs.Ytifemfnjoobiiaa.Run
open Go Go.RowKit
set_option linter.unusedVariables false
set_option linter.unusedSimpArgs false
section
variable {P : Program} {idf : FuncId → Bool} {call : CallF}
theorem hideC_rel {φ : Loc} {x y : Value} (h : VRel φ x y) : VRel φ (hideC x) y := by
 have one := h.oneCell
 cases h with
 | agg a a' ha ia ho =>
  refine .agg _ _ (by simpa using ha) (fun i x y hx hy => ?_) (by simp [Value.oneCell'])
  simp only [Array.getElem?_map] at hx
  obtain ⟨x', hx', rfl⟩ := Option.map_eq_some_iff.1 hx
  refine .junk _ ?_
  rw [(ia i x' y hx' hy).oneCell]
  exact List.all_eq_true.1 ho x' (List.mem_of_getElem? (by rw [Array.getElem?_toList]; exact hx'))
 | tuple a a' ha ia => exact .tuple a a' ha ia
 | _ => exact .junk _ (by rw [one]; rfl)
theorem hideV_rel {φ : Loc} {x y : Value} (h : VRel φ x y) : VRel φ (hideV x) y := by
 cases h with
 | tuple a a' ha ia =>
  refine .tuple _ _ (by simpa using ha) fun i x y hx hy => ?_
  simp only [Array.getElem?_map] at hx
  obtain ⟨x', hx', rfl⟩ := Option.map_eq_some_iff.1 hx
  exact hideC_rel (ia i x' y hx' hy)
 | agg a a' ha ia ho => exact hideC_rel (.agg a a' ha ia ho)
 | bool b => exact hideC_rel (.bool b)
 | int k n => exact hideC_rel (.int k n)
 | str s => exact hideC_rel (.str s)
 | ptr0 => exact hideC_rel .ptr0
 | ptr b off c K h => exact hideC_rel (.ptr b off c K h)
 | sl0 => exact hideC_rel .sl0
 | slx b off c K s len cap h hl => exact hideC_rel (.slx b off c K s len cap h hl)
 | slg b off c K len cap cap' h hl hc hK => exact hideC_rel (.slg b off c K len cap cap' h hl hc hK)
 | map0 => exact hideC_rel .map0
 | map b c K h => exact hideC_rel (.map b c K h)
 | func f a a' b b' ha hb ia ib => exact hideC_rel (.func f a a' b b' ha hb ia ib)
 | yield l l' K h => exact hideC_rel (.yield l l' K h)
 | nilFunc => exact hideC_rel .nilFunc
 | nilIface => exact hideC_rel .nilIface
 | iface t v v' h => exact hideC_rel (.iface t v v' h)
 | junk y hy => exact hideC_rel (.junk y hy)
 | hole k a cap => exact hideC_rel (.hole k a cap)
theorem ERel.fwd {φ : Loc} {es es' : List MapEntry} (h : ERel φ es es') : ∀ e' ∈ es', ∃ e ∈ es, VRel φ e.key e'.key ∧ VRel φ e.val e'.val ∧ e.born = e'.born := by
 induction h with
 | nil => intro e' h; cases h
 | cons hk hv t ih =>
  intro e' h
  cases h with
  | head => exact ⟨_, .head _, hk, hv, rfl⟩
  | tail _ h => obtain ⟨e, h1, h2⟩ := ih e' h; exact ⟨e, .tail _ h1, h2⟩
theorem ERel.bwd {φ : Loc} {es es' : List MapEntry} (h : ERel φ es es') : ∀ e ∈ es, ∃ e' ∈ es', e.born = e'.born := by
 induction h with
 | nil => intro e' h; cases h
 | cons hk hv t ih =>
  intro e h
  cases h with
  | head => exact ⟨_, .head _, rfl⟩
  | tail _ h => obtain ⟨e', h1, h2⟩ := ih e h; exact ⟨e', .tail _ h1, h2⟩
theorem collect_some {f : MapEntry → Option (List St)} : ∀ {es : List MapEntry} {l : List St}, collect f es = some l → ∀ e ∈ es, ∃ l1, f e = some l1 ∧ ∀ x ∈ l1, x ∈ l
 | [], l, h, e, he => by cases he
 | e0 :: es, l, h, e, he => by
  simp only [collect, Option.bind_eq_some_iff] at h
  obtain ⟨a, h1, h2⟩ := h
  obtain ⟨b, h3, rfl⟩ := map_some h2
  cases he with
  | head => exact ⟨a, h1, fun x hx => List.mem_append_left _ hx⟩
  | tail _ he =>
   obtain ⟨l1, h4, h5⟩ := collect_some h3 e he
   exact ⟨l1, h4, fun x hx => List.mem_append_right _ (h5 x hx)⟩
theorem plain_step {ops : Array Oper} {i : Nat} {o : Oper} (hops : ops[i]? = some o) (hg : o.guard = none) (hd : ∀ c, o.op ≠ .defer c) {a : Act} {w w' : World} {v : Value} {r : Option Nat} {Q : Exit → Act → World → Prop} {K : Act → World → Prop}
  (hrun : (execOp a.eval o).run P w = .ok (.value v) w') (hK : K (a.put o.dst v) w') : wpOpIn (fenceAt r) 0 P ops Q i K a w := by
 unfold wpOpIn
 have hw : Region.wanted o (yielded ops a.tmps) = true := by simp [Region.wanted, hg]
 simp only [hops, hw, if_true]
 refine ⟨fun f _ => fenceAt_fn r f, ?_⟩
 have hsem : o.semAt (fenceAt r).round a.eval = execOp a.eval o := Oper.semAt_eq _ _ _ hd
 rw [hsem, hrun, Oper.uponIn_value]
 exact hK
theorem put_rel {φ : Loc} {t : List Value} {a : Act} (h : LRel φ t a.tmps.toList) {v v' : Value} (hv : VRel φ v v') (d : Tmp) : LRel φ (t.set d v) (a.put (some d) v').tmps.toList := by
 have := h.set hv d
 simpa [Act.put, Array.toList_setIfInBounds] using this
section
variable {it nx ok : Tmp} {id rid : Nat} {o1 o2 : Oper} {B : Code} {r : Option Nat} {Q : Exit → Act → World → Prop}
theorem map_region {ops : Array Oper} (hops : ops.toList = [o1, o2]) (d1 : o1.dst = some nx) (p1 : o1.op = .next (.tmp it) false) (g1 : o1.guard = none) (d2 : o2.dst = some ok) (p2 : o2.op = .extract (.tmp nx) 0) (g2 : o2.guard = none)
  {t : List Value} {K : Act → World → Prop} {φ : Loc} {a : Act} {w w' : World} (hnx : nx < t.length) (hok : ok < t.length) (ht : LRel φ t a.tmps.toList) {b : Bool} {vs : List Value} {vs' : Array Value} (hvs : LRel φ (.bool b :: vs) vs'.toList) (hrun : (Instr.next (a.eval (.tmp it)) false o1.type).run P w = .ok (.tuple vs') w')
  (hgo : ∀ a', LRel φ ((t.set nx (.tuple (.bool b :: vs).toArray)).set ok (.bool b)) a'.tmps.toList → a'.defers = a.defers → a'.eval (.tmp ok) = .bool b → (Code.seq (.cond (.tmp ok) .skip (.exit id)) B).wpIn (fenceAt r) 0 P (Exit.then K Q) a' w') :
  (Code.seq (.region rid ops false) (.seq (.cond (.tmp ok) .skip (.exit id)) B)).wpIn (fenceAt r) 0 P (Exit.then K Q) a w := by
 obtain ⟨ops⟩ := ops
 simp only at hops
 subst hops
 refine wpIn_seq (wpIn_region ?_)
 have hr2 : List.range (⟨[o1, o2]⟩ : Array Oper).size = [0, 1] := rfl
 rw [hr2, wpOpsIn_cons]
 refine plain_step (o := o1) rfl g1 (by rw [p1]; intro c hcc; cases hcc) (v := .tuple vs') (w' := w') ?_ ?_
 ·unfold execOp; rw [p1]; simp [hrun]
 rw [wpOpsIn_cons]
 have ht1 := put_rel ht (VRel.of_tuple hvs) nx
 obtain ⟨v0, hv0, hv0'⟩ : ∃ v0, vs'[0]? = some v0 ∧ VRel φ (.bool b) v0 := by
  obtain ⟨y, h1, h2⟩ := hvs.get (n := 0) (x := .bool b) rfl
  exact ⟨y, by rw [← Array.getElem?_toList]; exact h1, h2⟩
 have hlen : nx < a.tmps.size := by
  have h5 : t.length = a.tmps.size := by simpa using ht.length
  rw [← h5]; exact hnx
 have hxe : (a.put (some nx) (.tuple vs')).eval (.tmp nx) = .tuple vs' := by
  simp [Act.eval, Act.put, hlen]
 refine plain_step (o := o2) rfl g2 (by rw [p2]; intro c hcc; cases hcc) (v := v0) (w' := w') ?_ ?_
 ·unfold execOp; rw [p2, d1]; simp [hxe, Instr.extract, hv0]
 have ht2 := put_rel (a := a.put (some nx) (.tuple vs')) (by simpa using ht1) hv0' ok
 rw [d1, d2]
 have ht3 : LRel φ ((t.set nx (.tuple (.bool b :: vs).toArray)).set ok (.bool b)) ((a.put (some nx) (.tuple vs')).put (some ok) v0).tmps.toList := by
  have hb : v0 = .bool b := by cases hv0'; rfl
  simpa [hb] using ht2
 refine hgo _ ht3 rfl ?_
 have h1 := ev_rel ht3 (x := .tmp ok) rfl
 have h2 : ev ((t.set nx (.tuple (.bool b :: vs).toArray)).set ok (.bool b)) (.tmp ok) = .bool b := by
  simp [ev, List.getD, List.getElem?_set, hok]
 rw [h2] at h1
 generalize Act.eval _ (.tmp ok) = y at h1 ⊢
 cases h1; rfl
theorem map_none {ops : Array Oper} (hops : ops.toList = [o1, o2]) (d1 : o1.dst = some nx) (p1 : o1.op = .next (.tmp it) false) (g1 : o1.guard = none) (d2 : o2.dst = some ok) (p2 : o2.op = .extract (.tmp nx) 0) (g2 : o2.guard = none) (hne : nx ≠ it ∧ ok ≠ it ∧ ok ≠ nx)
  {s : St} {K : Act → World → Prop} {φ : Loc} {a : Act} {w : World} {r0 : Nat} {o : AObj} (hit : iterAt s.t s.M it = some (r0, o)) (ho : o = .miter none ∨ ∃ m0 cl, o = .miter (some m0) ∧ s.M.get m0 = some (.map [] cl)) (hlen : nx < s.t.length ∧ ok < s.t.length) (ht : LRel φ s.t a.tmps.toList) (h : Rep P idf φ s.M w)
  (over : ∀ φ' a' w', LRel φ' (mapOver nx ok s).t a'.tmps.toList → a'.defers = a.defers → Rep P idf φ' s.M w' → Stp φ s.M w φ' s.M w' → Q (.exit id) a' w') :
  (Code.seq (.region rid ops false) (.seq (.cond (.tmp ok) .skip (.exit id)) B)).wpIn (fenceAt r) 0 P (Exit.then K Q) a w := by
 obtain ⟨hpt, hgr⟩ := iterAt_get hit
 have hv := ev_rel ht (x := .tmp it) rfl
 have hev : ev s.t (.tmp it) = .pointer (some ⟨r0, 0, none⟩) := hpt
 rw [hev] at hv
 have g : Gives P idf (Instr.next (a.eval (.tmp it)) false o1.type) φ s.M w (.tuple #[.bool false]) s.M := by
  rcases ho with rfl | ⟨m0, cl, rfl, hm⟩
  ·exact g_nextM0 h hv hgr
  ·exact g_nextM h hv hgr hm
 obtain ⟨φ', v', w', hrun, hvr, hrep, hstp⟩ := g
 cases hvr with
 | tuple _ vs' hsz hi =>
 have hvs : LRel φ' (.bool false :: []) vs'.toList := LRel.of_arr (a := #[.bool false]) hsz hi
 exact map_region hops d1 p1 g1 d2 p2 g2 hlen.1 hlen.2 (ht.mono hstp.ext) hvs hrun fun a' h1 h2 h3 => wpIn_seq (wpIn_cond_false h3 (wpIn_exit (over φ' a' w' h1 h2 hrep hstp)))
theorem map_round {ops : Array Oper} (hops : ops.toList = [o1, o2]) (d1 : o1.dst = some nx) (p1 : o1.op = .next (.tmp it) false) (g1 : o1.guard = none) (d2 : o2.dst = some ok) (p2 : o2.op = .extract (.tmp nx) 0) (g2 : o2.guard = none) (hne : nx ≠ it ∧ ok ≠ it ∧ ok ≠ nx)
  {go : St → Option (List St)} {s : St} {l : List St} {K : Act → World → Prop} {φ : Loc} {a : Act} {w : World} (hm : mapHere it nx ok s go = some l) (ht : LRel φ s.t a.tmps.toList) (h : Rep P idf φ s.M w)
  (over : ∀ a', LRel φ (mapOver nx ok s).t a'.tmps.toList → a'.defers = a.defers → mapOver nx ok s ∈ l → Q (.exit id) a' w)
  (enter : ∀ s1 l1, go s1 = some l1 → (∀ f ∈ l1, f ∈ l) → s1.ds = s.ds → ∀ a' w', LRel φ s1.t a'.tmps.toList → a'.defers = a.defers → Rep P idf φ s1.M w' → Stp φ s.M w φ s1.M w' → B.wpIn (fenceAt r) 0 P (Exit.then K Q) a' w') :
  (Code.seq (.region rid ops false) (.seq (.cond (.tmp ok) .skip (.exit id)) B)).wpIn (fenceAt r) 0 P (Exit.then K Q) a w := by
 obtain ⟨ops⟩ := ops
 simp only at hops
 subst hops
 unfold mapHere at hm
 split at hm
 rotate_left
 ·cases hm
 rename_i r0 m since seen last hit
 split at hm
 rotate_left
 ·cases hm
 rename_i es clock hmm
 split at hm
 rotate_left
 ·cases hm
 rename_i hc
 obtain ⟨hbase, hold, hsl, hnx, hok⟩ := hc
 obtain ⟨hpt, hgr⟩ := iterAt_get hit
 have hv := ev_rel ht (x := .tmp it) rfl
 have hev : ev s.t (.tmp it) = .pointer (some ⟨r0, 0, none⟩) := hpt
 rw [hev] at hv
 generalize hy : a.eval (.tmp it) = y at hv
 cases hv with
 | ptr _ _ c0 K0 hb =>
 obtain ⟨o, o', k1, k2, k3⟩ := h.obj _ _ _ hb
 rw [hgr] at k1; cases k1
 cases k3 with
 | miterL _ m' K' _ _ _ hφ =>
 obtain ⟨es', e1, e2⟩ := h.map hφ hmm
 have hold' : ∀ x ∈ es'.toList, x.born < since := fun x hx => by
  obtain ⟨e, he, _, _, hbn⟩ := e2.fwd x hx
  rw [← hbn]; exact hold e he
 have rest : ∀ (b : Bool) (vs : List Value) (vs' : Array Value) (w' : World), LRel φ (.bool b :: vs) vs'.toList → (Instr.next (.pointer (some ⟨c0, 0, none⟩)) false o1.type).run P w = .ok (.tuple vs') w' →
   (∀ a', LRel φ ((s.t.set nx (.tuple (.bool b :: vs).toArray)).set ok (.bool b)) a'.tmps.toList → a'.defers = a.defers → (Code.seq (.cond (.tmp ok) .skip (.exit id)) B).wpIn (fenceAt r) 0 P (Exit.then K Q) a' w') →
   (Code.seq (.region rid ⟨[o1, o2]⟩ false) (.seq (.cond (.tmp ok) .skip (.exit id)) B)).wpIn (fenceAt r) 0 P (Exit.then K Q) a w := by
  intro b vs vs' w' hvs hrun hgo
  exact map_region rfl d1 p1 g1 d2 p2 g2 hnx hok ht hvs (by rw [hy]; exact hrun) fun a' h1 h2 h3 => hgo a' h1 h2
 have cnd : ∀ (b : Bool) (vs : List Value) (a' : Act), LRel φ ((s.t.set nx (.tuple (.bool b :: vs).toArray)).set ok (.bool b)) a'.tmps.toList → a'.eval (.tmp ok) = .bool b := by
  intro b vs a' ha
  have h1 := ev_rel ha (x := .tmp ok) rfl
  have h2 : ev ((s.t.set nx (.tuple (.bool b :: vs).toArray)).set ok (.bool b)) (.tmp ok) = .bool b := by
   simp [ev, List.getD, List.getElem?_set, hok]
  rw [h2] at h1
  generalize a'.eval (.tmp ok) = y at h1
  cases h1; rfl
 rcases run_next_at (P := P) w o1.type c0 m' since last seen es' clock k2 e1 hold' hsl with ⟨h0, hrun⟩ | ⟨e', he', w1, hw1, hrun⟩
 ·-- it is over
  have hl : mapLeft seen es = [] := by
   cases hml : mapLeft seen es with
   | nil => rfl
   | cons e l0 =>
    have hmem : e ∈ mapLeft seen es := by rw [hml]; exact .head _
    unfold mapLeft at hmem
    obtain ⟨h1, h2⟩ := List.mem_filter.1 hmem
    obtain ⟨e', h3, h4⟩ := e2.bwd e h1
    have : e' ∈ (leftOf es' seen).toList := by
     unfold leftOf
     rw [Array.toList_filter]
     exact List.mem_filter.2 ⟨h3, by rw [← h4]; exact h2⟩
    rw [Array.eq_empty_of_size_eq_zero h0] at this
    simp at this
  rw [hl] at hm
  cases hm
  refine rest false [] #[.bool false] w (.cons (.bool _) .nil) hrun fun a' ha hd => ?_
  refine wpIn_seq (wpIn_cond_false (cnd false [] a' ha) (wpIn_exit ?_))
  exact over a' ha hd (.head _)
 ·-- one more
  have hel : ∃ e ∈ mapLeft seen es, VRel φ e.key e'.key ∧ VRel φ e.val e'.val ∧ e.born = e'.born := by
   unfold leftOf at he'
   rw [Array.toList_filter] at he'
   obtain ⟨h1, h2⟩ := List.mem_filter.1 he'
   obtain ⟨e, h3, h4, h5, h6⟩ := e2.fwd e' h1
   exact ⟨e, List.mem_filter.2 ⟨h3, by rw [h6]; exact h2⟩, h4, h5, h6⟩
  obtain ⟨e, hem, hk, hvv, hbn⟩ := hel
  have hcol : ∃ l1, go (mapEnter nx ok r0 m since clock seen s e) = some l1 ∧ ∀ x ∈ l1, x ∈ l := by
   cases hml : mapLeft seen es with
   | nil => rw [hml] at hem; cases hem
   | cons e0 l0 =>
    rw [hml] at hm hem
    exact collect_some hm e hem
  obtain ⟨l1, hgo, hsub⟩ := hcol
  have hw1' : Rep P idf φ s.M w1 ∧ Stp φ s.M w φ s.M w1 := by
   rcases hw1 with rfl | rfl
   ·exact ⟨h, Stp.refl _ _ _⟩
   ·exact ⟨h.of_heap rfl, Stp.drew _⟩
  obtain ⟨q1, q2⟩ := hw1'.1.put hb hbase (o := .miterL m since (seen.push e.born) clock) (o' := .mapIter (some m') since (seen.push e'.born) clock) (by rw [hgr]; simp) (by rw [hbn]; exact .miterL m m' K' since clock _ hφ)
  refine rest true [e.key, e.val] #[.bool true, e'.key, e'.val] _ (.cons (.bool _) (.cons hk (.cons hvv .nil))) hrun fun a' ha hd => ?_
  refine wpIn_seq (wpIn_cond_true (cnd true _ a' ha) (wpIn_skip ?_))
  exact enter _ l1 hgo hsub rfl a' _ ha hd q1 (hw1'.2.trans q2)
end
theorem pad_get : ∀ (n : Nat) (M : Mem) (b : Nat), (Mem.pad n M).get b = if b < M.size then M.get b else if b < M.size + n then some .dead else none
 | 0, M, b => by
  show M.get b = _
  split
  ·rfl
  ·rw [if_neg (by omega)]; unfold Mem.get; rw [if_neg (by assumption)]
 | n + 1, M, b => by
  show (Mem.pad n (M.push .dead)).get b = _
  rw [pad_get n]
  have hs : (M.push .dead).size = M.size + 1 := rfl
  rw [hs, Mem.get_push]
  by_cases h1 : b < M.size
  ·rw [if_pos (by omega), if_neg (by omega), if_pos h1]
  ·rw [if_neg h1]
   by_cases h2 : b = M.size
   ·rw [if_pos (by omega), if_pos h2, if_pos (by omega)]
   ·rw [if_neg (by omega)]
    by_cases h3 : b < M.size + 1 + n
    ·rw [if_pos h3, if_pos (by omega)]
    ·rw [if_neg h3, if_neg (by omega)]
theorem pad_size : ∀ (n : Nat) (M : Mem), (Mem.pad n M).size = M.size + n
 | 0, M => rfl
 | n + 1, M => by show (Mem.pad n (M.push .dead)).size = _; rw [pad_size n]; show M.size + 1 + n = _; omega
theorem pad_base : ∀ (n : Nat) (M : Mem), (Mem.pad n M).base = M.base
 | 0, M => rfl
 | n + 1, M => pad_base n (M.push .dead)
theorem maxSize_le : ∀ {l : List St} {f : St}, f ∈ l → f.M.size ≤ maxSize l
 | f0 :: l, f, h => by
  have hd : maxSize (f0 :: l) = max f0.M.size (maxSize l) := rfl
  cases h with
  | head => omega
  | tail _ h => have := maxSize_le h; omega
theorem Stp.hide {φ φ' : Loc} {M M1 M2 : Mem} {w w' : World} (h : Stp φ M w φ' M1 w') (hb : M2.base = M1.base) (hs : M1.size ≤ M2.size) (hro : ∀ b, b < M.base → M2.get b = M.get b) : Stp φ M w φ' M2 w' :=
 ⟨h.ext, fun b x h1 h2 => ⟨(h.new b x h1 h2).1, Nat.lt_of_lt_of_le (h.new b x h1 h2).2 hs⟩, h.fresh, hb.trans h.base, Nat.le_trans h.size hs, hro, h.frame, h.hsize, h.os, h.tape, h.output⟩
theorem Rep.hide {φ : Loc} {M M2 : Mem} {w : World} (h : Rep P idf φ M w) (hb : M2.base ≤ M2.size) (hg : ∀ b, b < M.size → M2.get b = M.get b ∨ M2.get b = some .dead) : Rep P idf φ M2 w := by
 refine ⟨hb, fun b c K hφ => ?_, fun b₁ b₂ c K₁ K₂ h1 h2 n1 n2 => ?_⟩
 ·obtain ⟨o, o', g1, g2, g3⟩ := h.obj b c K hφ
  rcases hg b (Mem.lt_of_get g1) with e | e
  ·exact ⟨o, o', e.trans g1, g2, g3⟩
  ·exact ⟨.dead, o', e, g2, .dead _⟩
 ·refine h.inj b₁ b₂ c K₁ K₂ h1 h2 ?_ ?_
  ·rcases hg b₁ (h.lt h1).1 with e | e
   ·rwa [← e]
   ·exact absurd e n1
  ·rcases hg b₂ (h.lt h2).1 with e | e
   ·rwa [← e]
   ·exact absurd e n2
theorem meet_rel {φ : Loc} {f0 f : St} {l : List St} {a : Act} (hf : f ∈ f0 :: l) (hlen : f.t.length = f0.t.length) (hh : ∀ i, hideV (f.t.getD i undef) = hideV (f0.t.getD i undef)) (h : LRel φ f.t a.tmps.toList) : LRel φ (meetT f0 l) a.tmps.toList := by
 refine LRel.of_idx _ _ (by rw [← h.length, hlen]; simp [meetT]) fun i x y hx hy => ?_
 unfold meetT at hx
 rw [List.getElem?_map] at hx
 obtain ⟨j, hj, rfl⟩ := Option.map_eq_some_iff.1 hx
 have hij : j = i ∧ i < f0.t.length := by
  obtain ⟨h1, h2⟩ := List.getElem?_eq_some_iff.1 hj
  rw [List.getElem_range] at h2
  rw [List.length_range] at h1
  exact ⟨h2.symm, h1⟩
 obtain ⟨rfl, hi⟩ := hij
 have hr := h.getD j
 have hyd : a.tmps.toList.getD j Go.undef = y := by simp [List.getD, hy]
 rw [hyd] at hr
 split
 ·rename_i hall
  cases hf with
  | head => exact hr
  | tail _ hf => rw [← hall f hf]; exact hr
 ·rw [← hh j]; exact hideV_rel hr
end
end Go.Proofs.Ytifemfnjoobiiaa.Run
