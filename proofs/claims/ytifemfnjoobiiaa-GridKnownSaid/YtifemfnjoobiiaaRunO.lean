/- The code of a function does what this session's small code says. No statement of the program's is proved here. -/
import Derived.Test.YtifemfnjoobiiaaRunP
import Derived.LoopNIn
import Derived.RangeFuncRecord
import Derived.RangeFuncNested
namespace Go.Proofs.Ytifemfnjoobiiaa.Run
open Go Go.RowKit
set_option linter.unusedVariables false
set_option linter.unusedSimpArgs false
section
variable {P : Program} {idf : FuncId → Bool} {call : CallF}
theorem ops_seq (CO : CallOK P idf call) (ID : IdOK P idf) {ops : Array Oper} {r : Option Nat} {Q : Exit → Act → World → Prop} : ∀ (l : List MOper) (i : Nat) (t t' : List Value) (M M' : Mem) (a : Act) (w : World) (φ : Loc),
  (∀ (j : Nat) (m : MOper), l[j]? = some m → m.q = 2 ∧ ∃ o, ops[i + j]? = some o ∧ compOper P idf ops o = some m) → runOps call l t M = some (t', M') → LRel φ t a.tmps.toList → Rep P idf φ M w →
  (∀ φ' a' w', LRel φ' t' a'.tmps.toList → a'.defers = a.defers → Rep P idf φ' M' w' → Stp φ M w φ' M' w' → Q .normal a' w') → wpOpsIn (fenceAt r) 0 P ops Q (List.range' i l.length) a w
 | [], i, t, t', M, M', a, w, φ, hl, hr, ht, h, hQ => by
  simp only [runOps, Option.some.injEq, Prod.mk.injEq] at hr
  obtain ⟨rfl, rfl⟩ := hr
  exact hQ φ a w ht rfl h (Stp.refl _ _ _)
 | m :: l, i, t, t', M, M', a, w, φ, hl, hr, ht, h, hQ => by
  simp only [runOps] at hr
  split at hr
  ·rename_i v M1 h1
   obtain ⟨hq, o, ho, hc⟩ := hl 0 m rfl
   simp only [Nat.add_zero] at ho
   have hst : stepVal call m t M = some (v, M1) := by
    unfold stepQ at h1
    rw [if_neg (by rw [hq]; rintro (h | ⟨h, _⟩) <;> cases h)] at h1; exact h1
   have hok := (compOp_ok (compOper_op hc).1).1
   have hv : ∀ x ∈ o.op.operands.toList, VRel φ (ev t x) (a.eval x) := fun x hx => ev_rel ht (List.all_eq_true.1 hok x hx)
   have hg : ∀ k b, m.guard = some (k, b) → GRel φ t[k]? a.tmps[k]? := by
    intro k b _
    by_cases hk : k < t.length
    ·have hx : t[k]? = some t[k] := by simp [hk]
     obtain ⟨y, h1, h2⟩ := ht.get hx
     rw [hx, show a.tmps[k]? = some y by simpa using h1]
     exact .some h2
    ·have hlen := ht.length
     have hk' : t.length ≤ (k : Nat) := Nat.le_of_not_lt hk
     have h1 : t[k]? = none := List.getElem?_eq_none hk'
     have h2 : a.tmps[k]? = none := by
      rw [← Array.getElem?_toList]
      exact List.getElem?_eq_none (hlen ▸ hk')
     rw [h1, h2]
     exact .none
   simp only [List.length_cons, List.range'_succ]
   rw [wpOpsIn_cons]
   refine step_sound CO ID ho hc h hv hg hst fun φ' v' w' h1 h2 h3 => ?_
   have hdst := (compOper_op hc).2
   refine ops_seq CO ID l (i + 1) _ t' M1 M' _ w' φ' (fun j mj hj => by have := hl (j + 1) mj (by simpa using hj); rwa [show i + (j + 1) = i + 1 + j by omega] at this) hr ?_ h2 ?_
   ·rw [hdst]
    have hm := ht.mono h3.ext
    cases hd : o.dst with
    | none => simpa [putT, Act.put] using hm
    | some d => simpa [putT, Act.put, Array.toList_setIfInBounds] using hm.set h1 d
   ·intro φ2 a2 w2 g1 g2 g3 g4
    refine hQ φ2 a2 w2 g1 (g2.trans (by cases o.dst <;> rfl)) g3 (h3.trans g4)
  ·cases hr
theorem region_sound (hmo : P.follows .mixedOrders = true) (CO : CallOK P idf call) (CS : CallStep call) (ID : IdOK P idf) {id : Nat} {ops : Array Oper} {draw : Bool} {ms : List MOper} (hc : compOps P idf ops draw = some ms) {r : Option Nat} {Q : Exit → Act → World → Prop}
  {t t' : List Value} {M M' : Mem} {a : Act} {w : World} {φ : Loc} (hr : runOps call ms t M = some (t', M')) (ht : LRel φ t a.tmps.toList) (h : Rep P idf φ M w)
  (hQ : ∀ φ' a' w', LRel φ' t' a'.tmps.toList → a'.defers = a.defers → Rep P idf φ' M' w' → Stp φ M w φ' M' w' → Q .normal a' w') : (Code.region id ops draw).wpIn (fenceAt r) 0 P Q a w := by
 unfold compOps at hc
 simp only [Option.bind_eq_some_iff] at hc
 obtain ⟨ms0, h0, hc⟩ := hc
 obtain ⟨hlen, hidx⟩ := mapM_idx h0
 simp only [Array.length_toList] at hlen
 cases draw with
 | false =>
  simp only [Bool.false_eq_true, if_false, Option.some.injEq] at hc
  subst hc
  refine wpIn_region ?_
  rw [hlen, List.range_eq_range']
  refine ops_seq CO ID ms0 0 t t' M M' a w φ (fun j m hj => ?_) hr ht h hQ
  have hjl := (List.getElem?_eq_some_iff.1 hj).1
  have ho : ops[j]? = some ops[j] := by simp [show j < ops.size by omega]
  obtain ⟨m', h1, h2⟩ := hidx j ops[j] (by simp)
  rw [hj] at h1; cases h1
  refine ⟨?_, ops[j], by simp, h2⟩
  unfold compOper at h2
  simp only [Option.bind_eq_some_iff] at h2
  obtain ⟨op, _, h2⟩ := h2
  split at h2
  ·cases h2; simp
  ·obtain ⟨tmp, _, rfl⟩ := map_some h2; simp
 | true =>
  simp only [if_true] at hc
  split at hc
  ·rename_i hord
   cases hc
   have O := orderOk_spec hord
   obtain ⟨tS, MS, vS, e1, e2, e3, e4, htr⟩ := runOps_trace hr
   rw [mark3_length, marked_length] at e3 e4
   have hmk : ∀ (i : Nat) (m : MOper), ms0[i]? = some m → ∃ q, (mark3 (marked (aheads [] ops.toList) (impure 0 ms0) 0 ms0))[i]? = some { m with q := q } ∧ (q = (if pureOp m.op then 0 else if aloneAt (aheads [] ops.toList) (impure 0 ms0) i then 2 else 1) ∨ (q = 3 ∧ pureOp m.op = false ∧ aloneAt (aheads [] ops.toList) (impure 0 ms0) i = false)) := by
    intro i m hm
    have h1 := marked_spec (aheads [] ops.toList) (impure 0 ms0) ms0 0 i m hm
    rw [Nat.zero_add] at h1
    obtain ⟨q, h2, h3⟩ := mark3_spec _ i _ h1
    refine ⟨q, h2, ?_⟩
    rcases h3 with h3 | ⟨h3, h4, h5⟩
    ·exact .inl h3
    ·refine .inr ⟨h4, ?_⟩
     simp only at h3 h5
     cases hp : pureOp m.op with
     | true => rw [hp] at h3; simp at h3
     | false =>
      cases ha : aloneAt (aheads [] ops.toList) (impure 0 ms0) i with
      | true => rw [hp, ha] at h3; simp at h3
      | false => exact ⟨rfl, rfl⟩
   have hinv : ∀ (i : Nat) (m : MOper), (mark3 (marked (aheads [] ops.toList) (impure 0 ms0) 0 ms0))[i]? = some m → ∃ m0 q, ms0[i]? = some m0 ∧ m = { m0 with q := q } ∧ (q = (if pureOp m0.op then 0 else if aloneAt (aheads [] ops.toList) (impure 0 ms0) i then 2 else 1) ∨ (q = 3 ∧ pureOp m0.op = false ∧ aloneAt (aheads [] ops.toList) (impure 0 ms0) i = false)) := by
    intro i m hm
    have hi := (List.getElem?_eq_some_iff.1 hm).1
    rw [mark3_length, marked_length] at hi
    have h1 : ms0[i]? = some ms0[i] := by simp [hi]
    obtain ⟨q, h2, h3⟩ := hmk i _ h1
    rw [hm] at h2
    exact ⟨_, q, h1, by simpa using h2, h3⟩
   have C : RCtx P idf call ops (mark3 (marked (aheads [] ops.toList) (impure 0 ms0) 0 ms0)) tS MS vS φ := {
    CO := CO, CS := CS, ID := ID, O := O
    len := by rw [mark3_length, marked_length]; exact hlen.symm
    m := fun i o ho => by
     obtain ⟨m0, h1, h2⟩ := hidx i o (by simpa using ho)
     obtain ⟨q, h3, _⟩ := hmk i m0 h1
     exact ⟨_, m0, h3, h2, rfl, rfl, rfl⟩
    q := fun i m hm => by
     obtain ⟨m0, q, h1, rfl, h2⟩ := hinv i m hm
     simp only
     rcases h2 with h2 | ⟨h2, h3, _⟩
     ·cases hp : pureOp m0.op with
      | true => exact .inl ⟨by rw [h2, hp]; simp, rfl⟩
      | false =>
       cases ha : aloneAt (aheads [] ops.toList) (impure 0 ms0) i with
       | true => exact .inr (.inr ⟨by rw [h2, hp, ha]; simp, rfl⟩)
       | false => exact .inr (.inl ⟨by rw [h2, hp, ha]; simp, rfl⟩)
     ·exact .inr (.inl ⟨.inr h2, h3⟩)
    one := fun i j mi mj h1 h2 h3 h4 => mark3_one _ (fun m hm h0 => by
     obtain ⟨k, hk⟩ := List.mem_iff_getElem?.1 hm
     have hkl := (List.getElem?_eq_some_iff.1 hk).1
     rw [marked_length] at hkl
     have := marked_spec (aheads [] ops.toList) (impure 0 ms0) ms0 0 k ms0[k] (by simp [hkl])
     rw [hk] at this
     have this := Option.some.inj this
     rw [this] at h0
     simp only at h0
     split at h0
     ·cases h0
     ·split at h0 <;> cases h0) i j mi mj h1 h2 h3 h4
    alone := fun i j m mj hm hq hmj hpj hne => by
     obtain ⟨m0, q, h1, rfl, h3⟩ := hinv i m hm
     obtain ⟨mj0, qj, h2, rfl, _⟩ := hinv j mj hmj
     simp only at hq hpj
     have hal : aloneAt (aheads [] ops.toList) (impure 0 ms0) i = true := by
      rcases h3 with h3 | ⟨h3, _⟩
      ·cases hp : pureOp m0.op with
       | true => rw [hp] at h3; simp at h3; omega
       | false =>
        rw [hp] at h3
        cases ha : aloneAt (aheads [] ops.toList) (impure 0 ms0) i with
        | true => rfl
        | false => rw [ha] at h3; simp at h3; omega
      ·omega
     have hin := impure_spec ms0 0 j mj0 h2 hpj
     rw [Nat.zero_add] at hin
     unfold aloneAt at hal
     have := List.all_eq_true.1 hal j hin
     simp only [Bool.or_eq_true, beq_iff_eq] at this
     rcases this with (h | h) | h
     ·exact absurd h.symm hne
     ·exact .inl h
     ·exact .inr h
    tr := htr
    b0 := by rw [e2]; exact h.bs
    φ := fun b x hb => by rw [e2]; obtain ⟨c, K⟩ := x; exact (h.lt hb).1 }
   obtain ⟨K, k1, k2, k3, k4⟩ := next_w ops.size (fun j => ∃ m : MOper, (mark3 (marked (aheads [] ops.toList) (impure 0 ms0) 0 ms0))[j]? = some m ∧ m.q = 2) ops.size 0 (by omega)
   have hnow : ∀ (j : Nat) (mj : MOper), 0 ≤ j → j < K → (mark3 (marked (aheads [] ops.toList) (impure 0 ms0) 0 ms0))[j]? = some mj → mj.q ≠ 2 := fun j mj h1 h2 hmj hqj => k3 j h1 h2 ⟨mj, hmj, hqj⟩
   have hnl : ∀ i, ¬ Listed (Array.replicate ops.size false) i := by
    intro i
    unfold Listed
    by_cases hi : i < ops.size
    ·simp [hi]
    ·simp [hi]
   have hw' : Rep P idf φ M { w with drawn := w.drawn + 1 } := h.of_heap rfl
   refine wpIn_region_any hmo (C.all (w₀ := { w with drawn := w.drawn + 1 }) (ds := a.defers) ?_ ops.size (Array.replicate ops.size false) a _ φ 0 K ?_ {
    size := by simp, closed := fun i o ho hl => absurd hl (hnl i), kle := k2, lle := Nat.zero_le _, lw := .inl rfl, nowr := hnow
    kdone := fun i m hi hm hq => absurd hq (hnow i m (Nat.zero_le _) hi hm)
    knot := fun i m _ _ _ => hnl i
    kW := fun hk => k4 hk
    below := fun i m _ _ hl => absurd hl (hnl i)
    rep := fun i _ hi => ?_
    stp := ?_
    dom := fun b x hb h0 => by rw [hb] at h0; cases h0
    sep := fun _ j₁ j₂ b₁ b₂ c K₁ K₂ x1 x2 x3 x4 g1 g2 l1 l2 => ?_
    tsize := by rw [e1]; have := ht.length; simp at this ⊢; omega
    done := fun j o d _ _ hl => absurd hl (hnl j)
    todo := fun d hd _ => ?_
    ds := rfl })
   ·intro φ' a' w' g1 g2 g3 g4
    have x1 : tS ops.size = t' := by rw [hlen]; exact e3
    have x2 : MS ops.size = M' := by rw [hlen]; exact e4
    rw [x1] at g1
    rw [x2] at g3 g4
    rw [e2] at g4
    exact hQ φ' a' w' g1 g2 g3 ((Stp.drew _).trans g4)
   ·exact Nat.le_trans (List.length_filter_le _ _) (by simp)
   ·have hS := C.same i (by omega)
    have hget : ∀ b, b < (MS 0).size → (MS i).get b = (MS 0).get b ∨ (MS i).get b = some .dead := fun b hb => ((hS.2 0 (Nat.zero_le _)).2 (fun j m h1 h2 hm => hnow j m h1 (by omega) hm) b hb).imp (fun x => x) And.left
    have hsz := (hS.2 0 (Nat.zero_le _)).1
    rw [e2] at hget hsz
    rw [Loc.upto_eq (fun b x hb => by obtain ⟨c, K⟩ := x; have := (h.lt hb).1; omega)]
    refine ⟨hS.1.ok C.b0, fun b c K hb => ?_, fun b₁ b₂ c K₁ K₂ g1 g2 l1 l2 => ?_⟩
    ·obtain ⟨o, o', g1, g2, g3⟩ := hw'.obj b c K hb
     rcases hget b (h.lt hb).1 with e | e
     ·exact ⟨o, o', by rw [e]; exact g1, g2, g3⟩
     ·exact ⟨.dead, o', e, g2, .dead _⟩
    ·rw [(hget _ (h.lt g1).1).resolve_right l1] at l1
     rw [(hget _ (h.lt g2).1).resolve_right l2] at l2
     exact h.inj b₁ b₂ c K₁ K₂ g1 g2 l1 l2
   ·have hS := (C.same K k2).1
    exact ⟨fun _ _ h => h, fun b x h h' => by (rw [h] at h'; cases h'), fun b c K h h' => by (rw [h] at h'; cases h'), hS.base, hS.size, hS.ro, fun _ _ _ => rfl, Nat.le_refl _, rfl, rfl, rfl⟩
   ·have alive : ∀ j b x, j ≤ K → φ b = some x → (MS j).get b ≠ some .dead → M.get b ≠ some .dead := fun j b x y1 y2 y3 => by
     have hS := C.same j (by omega)
     have := ((hS.2 0 (Nat.zero_le _)).2 (fun k m h1 h2 hm => hnow k m h1 (by omega) hm) b (by rw [e2]; obtain ⟨c, K⟩ := x; exact (h.lt y2).1)).imp (fun x => x) And.left
     rw [this.resolve_right y3, e2] at y3
     exact y3
    exact h.inj b₁ b₂ c K₁ K₂ (Loc.upto_sub _ _ g1) (Loc.upto_sub _ _ g2) (alive j₁ b₁ _ x2 (Loc.upto_sub _ _ g1) l1) (alive j₂ b₂ _ x4 (Loc.upto_sub _ _ g2) l2)
   ·rw [e1]
    have hlt : d < t.length := by have := ht.length; simp at this; omega
    have hx : t[d]? = some t[d] := by simp [hlt]
    obtain ⟨y, h1, h2⟩ := ht.get hx
    rw [hx, show a.tmps[d]? = some y by simpa using h1]
    exact .some h2
  ·cases hc
theorem fluxAt_spec {ops : List Oper} {ms : List MOper} {js : Nat} {f : Flux} (h : fluxAt ops ms js = some f) : f.js = js ∧ (∃ q, ms[js]? = some { dst := none, guard := none, q := q, op := .store f.n (.tmp f.p) f.x }) ∧ (∃ z, ms[f.jb]? = some { dst := some f.p, guard := none, q := 1, op := .box f.ty (.const z) } ∧ z.cells.size = f.n ∧ notTup z = true) ∧ f.jb < f.js ∧ okO f.x = true ∧
  (∃ o, ops[js]? = some o ∧ hasEdge o f.jb = true) ∧ ∀ t, f.x = .tmp t → ∀ (j : Nat) (o : Oper), ops[j]? = some o → o.dst = some t → j < js := by
 unfold fluxAt at h
 split at h
 rotate_left
 ·cases h
 rename_i q n p x hjs
 split at h
 rotate_left
 ·cases h
 rename_i jb hfind
 split at h
 rotate_left
 ·cases h
 rename_i d ty z hjb
 split at h
 rotate_left
 ·cases h
 rename_i hc
 cases h
 simp only [Bool.and_eq_true, beq_iff_eq, decide_eq_true_eq] at hc
 obtain ⟨⟨⟨⟨⟨⟨h1, h2⟩, h3⟩, h4⟩, h5⟩, h6⟩, h7⟩ := hc
 subst h1
 refine ⟨rfl, ⟨q, hjs⟩, ⟨z, hjb, h3, h4⟩, h2, h5, ?_, fun t ht j o ho hd => ?_⟩
 ·unfold edgeAt at h6
  cases ho : ops[js]? with
  | none => rw [ho] at h6; cases h6
  | some o => rw [ho] at h6; exact ⟨o, rfl, h6⟩
 ·simp only at ht
  subst ht
  unfold xOk at h7
  simp only [List.all_eq_true] at h7
  have := h7 (o, j) (by rw [List.mk_mem_zipIdx_iff_getElem?]; exact ho)
  simpa [hd] using this
theorem lates_info {call : CallF} : ∀ (fl : List Flux) (t t' : List Value) (M M' : Mem), runOps call (lates fl) t M = some (t', M') → ∀ f ∈ fl, f.p < t.length ∧ (ev t f.x).cells.size = f.n ∧ notTup (ev t f.x) = true
 | [], _, _, _, _, _ => by simp
 | f :: fl, t, t', M, M', h => by
  simp only [lates, List.map_cons, runOps] at h
  split at h
  rotate_left
  ·cases h
  rename_i v M1 hst
  unfold stepQ at hst
  rw [if_neg (by simp)] at hst
  unfold stepVal at hst
  simp only [guardOk, if_true, opSem] at hst
  split at hst
  rotate_left
  ·cases hst
  rename_i b e1
  split at hst
  rotate_left
  ·cases hst
  split at hst
  rotate_left
  ·cases hst
  rename_i hc
  cases hst
  have hx : t[f.p]? = some (.pointer (some ⟨b, 0, none⟩)) := by
   have : (t[f.p]?).getD undef = .pointer (some ⟨b, 0, none⟩) := by simpa [ev, List.getD] using e1
   cases h : t[f.p]? with
   | none => rw [h] at this; cases this
   | some z => rw [h] at this; simpa using this
  obtain ⟨h1, h2⟩ := List.getElem?_eq_some_iff.1 hx
  have hput : putT t (some f.p) (.pointer (some ⟨b, 0, none⟩)) = t := by
   show t.set f.p _ = t
   rw [← h2]
   exact List.set_getElem_self h1
  rw [hput] at h
  intro g hg
  rcases List.mem_cons.1 hg with rfl | hg
  ·exact ⟨h1, hc.2.1, hc.2.2⟩
  ·exact lates_info fl t t' _ M' h g hg
set_option maxHeartbeats 1000000 in
theorem flux_sound (hmo : P.follows .mixedOrders = true) (CO : CallOK P idf call) (CS : CallStep call) (ID : IdOK P idf) {id : Nat} {ops : Array Oper} {ms : List MOper} (hc : compOps P idf ops true = some ms) {r : Option Nat} {Q : Exit → Act → World → Prop}
  (hq01 : (fluxed (fluxes ops.toList ms) ms).any (fun m => m.q != 0 && m.q != 1) = false) (huq : (fluxes ops.toList ms).all (fun f => (fluxes ops.toList ms).all fun g => f.jb != g.jb || f.js == g.js) = true)
  {t t1 t' : List Value} {M M1 M' : Mem} {a : Act} {w : World} {φ : Loc} (hr : runOps call (fluxed (fluxes ops.toList ms) ms) t M = some (t1, M1)) (hr2 : runOps call (lates (fluxes ops.toList ms)) t1 M1 = some (t', M')) (ht : LRel φ t a.tmps.toList) (h : Rep P idf φ M w)
  (hQ : ∀ φ' a' w', LRel φ' t' a'.tmps.toList → a'.defers = a.defers → Rep P idf φ' M' w' → Stp φ M w φ' M' w' → Q .normal a' w') : (Code.region id ops true).wpIn (fenceAt r) 0 P Q a w := by
 generalize hfl : fluxes ops.toList ms = fl at *
 unfold compOps at hc
 simp only [Option.bind_eq_some_iff, if_true] at hc
 obtain ⟨ms0, h0, hc⟩ := hc
 obtain ⟨hlen, hidx⟩ := mapM_idx h0
 simp only [Array.length_toList] at hlen
 split at hc
 rotate_left
 ·cases hc
 rename_i hord
 have hms := Option.some.inj hc
 have O := orderOk_spec hord
 have mslen : ms.length = ops.size := by rw [← hms, mark3_length, marked_length]; exact hlen.symm
 have hmk : ∀ (i : Nat) (m : MOper), ms0[i]? = some m → ∃ q, ms[i]? = some { m with q := q } ∧ ((q = 0 ∧ pureOp m.op = true) ∨ (q ≠ 0 ∧ pureOp m.op = false)) := by
  intro i m hm
  have h1 := marked_spec (aheads [] ops.toList) (impure 0 ms0) ms0 0 i m hm
  rw [Nat.zero_add] at h1
  obtain ⟨q, h2, h3⟩ := mark3_spec _ i _ h1
  rw [hms] at h2
  refine ⟨q, h2, ?_⟩
  simp only at h3
  cases hp : pureOp m.op with
  | true =>
   rw [hp] at h3
   rcases h3 with h3 | ⟨h3, _⟩
   ·exact .inl ⟨by simpa using h3, rfl⟩
   ·simp at h3
  | false =>
   refine .inr ⟨?_, rfl⟩
   rw [hp] at h3
   rcases h3 with h3 | ⟨_, h3, _⟩
   ·simp only [Bool.false_eq_true, if_false] at h3
    split at h3 <;> omega
   ·omega
 have mem : ∀ f ∈ fl, ∃ js, fluxAt ops.toList ms js = some f := fun f hf => by
  rw [← hfl] at hf
  unfold fluxes at hf
  obtain ⟨js, _, h⟩ := List.mem_filterMap.1 hf
  exact ⟨js, h⟩
 have spec : ∀ f ∈ fl, (∃ q, ms[f.js]? = some { dst := none, guard := none, q := q, op := .store f.n (.tmp f.p) f.x }) ∧ (∃ z, ms[f.jb]? = some { dst := some f.p, guard := none, q := 1, op := .box f.ty (.const z) } ∧ z.cells.size = f.n ∧ notTup z = true) ∧ f.jb < f.js ∧ okO f.x = true ∧
   (∃ o, ops[f.js]? = some o ∧ hasEdge o f.jb = true) ∧ ∀ t, f.x = .tmp t → ∀ (j : Nat) (o : Oper), ops[j]? = some o → o.dst = some t → j < f.js := fun f hf => by
  obtain ⟨js, h⟩ := mem f hf
  obtain ⟨rfl, h1, h2, h3, h4, h5, h6⟩ := fluxAt_spec h
  exact ⟨h1, h2, h3, h4, by simpa using h5, fun t ht j o ho => h6 t ht j o (by simpa using ho)⟩
 have us : ∀ f ∈ fl, ∀ g ∈ fl, f.js = g.js → f = g := fun f hf g hg e => by
  obtain ⟨j1, h1⟩ := mem f hf
  obtain ⟨j2, h2⟩ := mem g hg
  have e1 := (fluxAt_spec h1).1
  have e2 := (fluxAt_spec h2).1
  have : j1 = j2 := by omega
  subst this
  rw [h1] at h2
  exact Option.some.inj h2
 have uj : ∀ f ∈ fl, ∀ g ∈ fl, f.jb = g.jb → f = g := fun f hf g hg e => by
  have := List.all_eq_true.1 (List.all_eq_true.1 huq f hf) g hg
  simp only [Bool.or_eq_true, bne_iff_ne, ne_eq, beq_iff_eq] at this
  exact us f hf g hg (this.resolve_left (fun h => h e))
 obtain ⟨tS, MS, vS, e1, e2, e3, e4, htr⟩ := runOps_trace hr
 have fllen : (fluxed fl ms).length = ops.size := by unfold fluxed; rw [List.length_mapIdx]; exact mslen
 rw [fllen] at e3 e4
 have fget : ∀ (i : Nat) (m : MOper), ms[i]? = some m → (fluxed fl ms)[i]? = some (if fl.any (fun f => f.jb == i) then { m with op := .boxD } else if fl.any (fun f => f.js == i) then { m with q := 0, op := .val (.const (.bool true)) } else m) := fun i m hm => by
  unfold fluxed
  rw [List.getElem?_mapIdx, hm]; rfl
 have hm3 : ∀ (i : Nat) (o : Oper), ops[i]? = some o → ∃ m m0, (fluxed fl ms)[i]? = some m ∧ compOper P idf ops o = some m0 ∧ m.dst = m0.dst ∧
  ((m.guard = m0.guard ∧ m.op = m0.op ∧ ((m.q = 0 ∧ pureOp m.op = true) ∨ (m.q = 1 ∧ pureOp m.op = false)) ∧ ∀ f ∈ fl, f.jb ≠ i ∧ f.js ≠ i) ∨
   (∃ f ∈ fl, ∃ z, f.jb = i ∧ m.guard = none ∧ m0.guard = none ∧ m.q = 1 ∧ m.op = .boxD ∧ m0.op = .box f.ty (.const z) ∧ z.cells.size = f.n ∧ notTup z = true ∧ m0.dst = some f.p ∧ ∀ g ∈ fl, g.js ≠ i) ∨
   (∃ f ∈ fl, f.js = i ∧ m.guard = none ∧ m0.guard = none ∧ m.q = 0 ∧ m.op = .val (.const (.bool true)) ∧ m0.op = .store f.n (.tmp f.p) f.x ∧ m0.dst = none ∧ ∀ g ∈ fl, g.jb ≠ i)) := by
  intro i o ho
  obtain ⟨m0, h1, h2⟩ := hidx i o (by simpa using ho)
  obtain ⟨q, h3, h4⟩ := hmk i m0 h1
  refine ⟨_, m0, fget i _ h3, h2, ?_, ?_⟩
  ·split
   ·rfl
   ·split <;> rfl
  ·cases hjb : fl.any (fun f => f.jb == i) with
   | true =>
    obtain ⟨f, hf, he⟩ := List.any_eq_true.1 hjb
    have he : f.jb = i := by simpa using he
    obtain ⟨s1, ⟨z, s2, s3, s4⟩, _⟩ := spec f hf
    rw [he, h3] at s2
    have s2 := Option.some.inj s2
    have k1 : m0.dst = some f.p := congrArg MOper.dst s2
    have k2 : m0.guard = none := congrArg MOper.guard s2
    have k3 : q = 1 := congrArg MOper.q s2
    have k4 : m0.op = .box f.ty (.const z) := congrArg MOper.op s2
    refine .inr (.inl ⟨f, hf, z, he, ?_, k2, ?_, rfl, k4, s3, s4, k1, fun g hg hgi => ?_⟩)
    ·simp only [if_true]; exact k2
    ·simp only [if_true]; exact k3
    ·obtain ⟨_, this⟩ := (spec g hg).1
     rw [hgi, h3] at this
     have := congrArg MOper.op (Option.some.inj this)
     simp only at this
     rw [k4] at this; cases this
   | false =>
    have hnj : ∀ f ∈ fl, f.jb ≠ i := fun f hf he => by
     have := List.any_eq_false.1 hjb f hf
     simp [he] at this
    cases hjs : fl.any (fun f => f.js == i) with
    | true =>
     obtain ⟨f, hf, he⟩ := List.any_eq_true.1 hjs
     have he : f.js = i := by simpa using he
     obtain ⟨⟨q', s1⟩, _⟩ := spec f hf
     rw [he, h3] at s1
     have s2 := Option.some.inj s1
     have k1 : m0.dst = none := congrArg MOper.dst s2
     have k2 : m0.guard = none := congrArg MOper.guard s2
     have k4 : m0.op = .store f.n (.tmp f.p) f.x := congrArg MOper.op s2
     exact .inr (.inr ⟨f, hf, he, k2, k2, rfl, rfl, k4, k1, hnj⟩)
    | false =>
     have hns : ∀ f ∈ fl, f.js ≠ i := fun f hf he => by
      have := List.any_eq_false.1 hjs f hf
      simp [he] at this
     have h01 : q = 0 ∨ q = 1 := by
      have hg := fget i _ h3
      rw [hjb, hjs] at hg
      have := List.any_eq_false.1 hq01 _ (List.mem_of_getElem? hg)
      simp only [Bool.false_eq_true, if_false, bne_iff_ne, ne_eq, Bool.and_eq_true, not_and, Decidable.not_not] at this
      by_cases e : q = 0
      ·exact .inl e
      ·exact .inr (this e)
     refine .inl ⟨rfl, rfl, ?_, fun f hf => ⟨hnj f hf, hns f hf⟩⟩
     simp only [Bool.false_eq_true, if_false]
     rcases h4 with h4 | ⟨h4, h5⟩
     ·exact .inl h4
     ·exact .inr ⟨h01.resolve_left h4, h5⟩
 have hdst : ∀ (i : Nat) (o : Oper), ops[i]? = some o → ∃ m, (fluxed fl ms)[i]? = some m ∧ m.dst = o.dst := fun i o ho => by
  obtain ⟨m, m0, h1, h2, h3, _⟩ := hm3 i o ho
  exact ⟨m, h1, h3.trans (compOper_op h2).2⟩
 have env := fun k n (hn : n ≤ ops.size) => tS_get (tS := tS) (vS := vS) O hdst fllen (fun i m hm => (htr i m hm).2) k n hn
 have hx : ∀ f ∈ fl, ev (tS f.js) f.x = ev (tS ops.size) f.x := fun f hf => by
  obtain ⟨_, _, _, hok, ⟨o, ho, _⟩, hlt⟩ := spec f hf
  have hjs : f.js < ops.size := (Array.getElem?_eq_some_iff.1 ho).1
  cases hxx : f.x with
  | const v => rfl
  | global g => rw [hxx] at hok; cases hok
  | func g => rfl
  | tmp k =>
   obtain ⟨l1, d1⟩ := env k f.js (by omega)
   obtain ⟨l2, d2⟩ := env k ops.size (Nat.le_refl _)
   have key : (tS f.js)[k]? = (tS ops.size)[k]? := by
    by_cases hk : k < (tS 0).length
    ·rcases d2 with ⟨j, p, hj, hp, hd, hvv⟩ | ⟨hno, hvv⟩
     ·have hjlt := hlt k hxx j p hp hd
      rcases d1 with ⟨j', p', hj', hp', hd', hvv'⟩ | ⟨hno', _⟩
      ·have := O.dst _ _ _ _ _ hp hp' hd hd'
       subst this
       rw [hvv hk, hvv' hk]
      ·exact absurd hd (hno' j p hjlt hp)
     ·rcases d1 with ⟨j', p', hj', hp', hd', hvv'⟩ | ⟨hno', hvv'⟩
      ·exact absurd hd' (hno j' p' (by omega) hp')
      ·rw [hvv, hvv']
    ·rw [List.getElem?_eq_none (l1 ▸ Nat.le_of_not_lt hk), List.getElem?_eq_none (l2 ▸ Nat.le_of_not_lt hk)]
   simp [ev, List.getD, key]
 have info := lates_info fl t1 t' M1 M' hr2
 rw [← e3] at info
 have C : FCtx P idf call ops (fluxed fl ms) tS MS vS φ fl := {
  CO := CO, CS := CS, ID := ID, O := O, len := fllen, m := hm3
  f := fun f hf => by
   obtain ⟨_, _, s3, s4, ⟨o, ho, s5⟩, _⟩ := spec f hf
   exact ⟨s3, (Array.getElem?_eq_some_iff.1 ho).1, s4, o, ho, s5⟩
  uj := uj, us := us
  late := fun f hf => by
   obtain ⟨i1, i2, i3⟩ := info f hf
   rw [hx f hf]
   exact ⟨i2, i3, by rw [(env 0 ops.size (Nat.le_refl _)).1] at i1; exact i1⟩
  tr := htr
  b0 := by rw [e2]; exact h.bs
  φ := fun b x hb => by rw [e2]; obtain ⟨c, K⟩ := x; exact (h.lt hb).1 }
 have hnl : ∀ i, ¬ Listed (Array.replicate ops.size false) i := by
  intro i
  unfold Listed
  by_cases hi : i < ops.size
  ·simp [hi]
  ·simp [hi]
 have hw' : Rep P idf φ M { w with drawn := w.drawn + 1 } := h.of_heap rfl
 refine wpIn_region_any hmo (C.all (w₀ := { w with drawn := w.drawn + 1 }) (ds := a.defers) ?_ ops.size (Array.replicate ops.size false) a _ φ ?_ {
  size := by simp, closed := fun i o ho hl => absurd hl (hnl i)
  rep := fun i hi => ?_
  stp := ?_
  dom := fun b x hb h0 => by rw [hb] at h0; cases h0
  tsize := by rw [e1]; have := ht.length; simp at this ⊢; omega
  done := fun j o d _ _ hl => absurd hl (hnl j)
  todo := fun d hd _ => ?_
  ds := rfl
  flux := fun f hf hl => absurd hl (hnl f.jb) })
 ·intro φ' a' w' g1 g2 g3 g4 g5
  rw [e3] at g1
  rw [e4] at g3 g4
  rw [e2] at g4
  obtain ⟨r1, r2, r3⟩ := lates_sound (φ₀ := φ) (M₀ := M) fl t1 t' M1 M' hr2 g1 g3 g4 fun f hf => by
   obtain ⟨c, K, c', k1, k2, k3, k4, k5, y, k6, k7⟩ := g5 f hf
   obtain ⟨s1, s2, s3, s4, ⟨o, ho, s5⟩, _⟩ := spec f hf
   refine ⟨s4, _, c, K, c', ?_, k1, k2, k3, k4, k5, y, by rw [hx f hf, e3] at k6; exact k6, k7⟩
   obtain ⟨n1, n2, n3, n4⟩ := MS_new C hf
   have hjb : f.jb < ops.size := by omega
   obtain ⟨l2, d2⟩ := env f.p ops.size (Nat.le_refl _)
   obtain ⟨mm, hmm, hmd⟩ := hdst f.jb ops[f.jb] (by simp [hjb])
   have hod : (ops[f.jb]).dst = some f.p := by
    rw [← hmd]
    obtain ⟨z, z1, _⟩ := s2
    have hg := fget f.jb _ z1
    rw [hmm] at hg
    have hg := Option.some.inj hg
    rw [hg]
    split
    ·rfl
    ·split <;> rfl
   have hpl : f.p < (tS 0).length := by have := (info f hf).1; rw [l2] at this; exact this
   rcases d2 with ⟨j, p, hj, hp, hd, hvv⟩ | ⟨hno, _⟩
   ·have := O.dst _ _ _ _ _ hp (show ops[f.jb]? = some ops[f.jb] by simp [hjb]) hd hod
    subst this
    have := hvv hpl
    rw [n1, e3] at this
    simp [ev, List.getD, this]
   ·exact absurd hod (hno f.jb _ hjb (by simp [hjb]))
  rw [r1] at hQ
  exact hQ φ' a' w' g1 g2 r2 ((Stp.drew _).trans r3)
 ·exact Nat.le_trans (List.length_filter_le _ _) (by simp)
 ·have hS := C.same i hi
  have hget : ∀ b, b < (MS 0).size → (MS i).get b = (MS 0).get b := fun b hb => (hS.2 0 (Nat.zero_le _)).2 b hb
  have hsz := (hS.2 0 (Nat.zero_le _)).1
  rw [e2] at hget hsz
  rw [Loc.upto_eq (fun b x hb => by obtain ⟨c, K⟩ := x; have := (h.lt hb).1; omega)]
  refine ⟨hS.1.ok C.b0, fun b c K hb => ?_, fun b₁ b₂ c K₁ K₂ g1 g2 l1 l2 => ?_⟩
  ·obtain ⟨o, o', g1, g2, g3⟩ := hw'.obj b c K hb
   exact ⟨o, o', by rw [hget b (h.lt hb).1]; exact g1, g2, g3⟩
  ·rw [hget _ (h.lt g1).1] at l1
   rw [hget _ (h.lt g2).1] at l2
   exact h.inj b₁ b₂ c K₁ K₂ g1 g2 l1 l2
 ·have hS := (C.same ops.size (Nat.le_refl _)).1
  exact ⟨fun _ _ h => h, fun b x h h' => by (rw [h] at h'; cases h'), fun b c K h h' => by (rw [h] at h'; cases h'), hS.base, hS.size, hS.ro, fun _ _ _ => rfl, Nat.le_refl _, rfl, rfl, rfl⟩
 ·rw [e1]
  have hlt : d < t.length := by have := ht.length; simp at this; omega
  have hx : t[d]? = some t[d] := by simp [hlt]
  obtain ⟨y, h1, h2⟩ := ht.get hx
  rw [hx, show a.tmps[d]? = some y by simpa using h1]
  exact .some h2
end
end Go.Proofs.Ytifemfnjoobiiaa.Run
