/- A region whose order is drawn does what its operations do one behind the other. No statement of the program's is proved here. -/
import Derived.Test.YtifemfnjoobiiaaRunM
import Derived.Test.YtifemfnjoobiiaaQuietB
namespace Go.Proofs.Ytifemfnjoobiiaa.Run
open Go Go.RowKit
set_option linter.unusedVariables false
set_option linter.unusedSimpArgs false
section
variable {P : Program} {idf : FuncId → Bool} {call : CallF} {ops : Array Oper} {ml : List MOper} {tS : Nat → List Value} {MS : Nat → Mem} {vS : Nat → Value} {φ₀ : Loc} {w₀ : World} {ds : List Deferred}
structure RCtx (P : Program) (idf : FuncId → Bool) (call : CallF) (ops : Array Oper) (ml : List MOper) (tS : Nat → List Value) (MS : Nat → Mem) (vS : Nat → Value) (φ₀ : Loc) : Prop where
 CO : CallOK P idf call
 CS : CallStep call
 ID : IdOK P idf
 O : OrderOk ops
 len : ml.length = ops.size
 m : ∀ (i : Nat) (o : Oper), ops[i]? = some o → ∃ m m0, ml[i]? = some m ∧ compOper P idf ops o = some m0 ∧ m.dst = m0.dst ∧ m.guard = m0.guard ∧ m.op = m0.op
 q : ∀ (i : Nat) (m : MOper), ml[i]? = some m → (m.q = 0 ∧ pureOp m.op = true) ∨ ((m.q = 1 ∨ m.q = 3) ∧ pureOp m.op = false) ∨ (m.q = 2 ∧ pureOp m.op = false)
 one : ∀ (i j : Nat) (mi mj : MOper), ml[i]? = some mi → mi.q = 3 → ml[j]? = some mj → mj.q = 3 → i = j
 alone : ∀ (i j : Nat) (m mj : MOper), ml[i]? = some m → m.q = 2 → ml[j]? = some mj → pureOp mj.op = false → i ≠ j → ((aheads [] ops.toList).getD i 0).testBit j = true ∨ ((aheads [] ops.toList).getD j 0).testBit i = true
 tr : ∀ (i : Nat) (m : MOper), ml[i]? = some m → stepQ call m (tS i) (MS i) = some (vS i, MS (i + 1)) ∧ tS (i + 1) = putT (tS i) m.dst (vS i)
 b0 : (MS 0).base ≤ (MS 0).size
 φ : ∀ b x, φ₀ b = some x → b < (MS 0).size
theorem stepVal_congr {call : CallF} {m m0 : MOper} (h1 : m.guard = m0.guard) (h2 : m.op = m0.op) (t : List Value) (M : Mem) : stepVal call m t M = stepVal call m0 t M := by
 unfold stepVal; rw [h1, h2]
theorem getD_rel {φ : Loc} {t : List Value} {a : Act} {k : Nat} (h : GRel φ t[k]? a.tmps[k]?) : VRel φ (ev t (.tmp k)) (a.eval (.tmp k)) := by
 have e1 : ev t (.tmp k) = (t[k]?).getD undef := by simp [ev, List.getD]
 have e2 : a.eval (.tmp k) = (a.tmps[k]?).getD undef := by simp [Act.eval]
 rw [e1, e2]
 generalize t[k]? = x at h ⊢
 generalize a.tmps[k]? = y at h ⊢
 cases h with
 | none => exact VRel.undef
 | some h => exact h
theorem Rep.keep {φ : Loc} {M : Mem} {w w' : World} (h : Rep P idf φ M w) (hk : ∀ c, c < w.heap.size → w'.heap[c]? = w.heap[c]?) : Rep P idf φ M w' :=
 ⟨h.bs, fun b c K hb => by
  obtain ⟨o, o', h1, h2, h3⟩ := h.obj b c K hb
  exact ⟨o, o', h1, (hk c (h.lt hb).2).trans h2, h3⟩, h.inj⟩
theorem Stp.keep {φ₀ φ : Loc} {M₀ M : Mem} {w₀ w w' : World} (h : Stp φ₀ M₀ w₀ φ M w) (hk : ∀ c, c < w.heap.size → w'.heap[c]? = w.heap[c]?) (hs : w.heap.size ≤ w'.heap.size) (ho : w'.os = w.os) (ht : w'.tape = w.tape) (hu : w'.output = w.output) : Stp φ₀ M₀ w₀ φ M w' :=
 ⟨h.ext, h.new, h.fresh, h.base, h.size, h.ro, fun c hc hall => (hk c (Nat.lt_of_lt_of_le hc h.hsize)).trans (h.frame c hc hall), Nat.le_trans h.hsize hs, ho.trans h.os, ht.trans h.tape, hu.trans h.output⟩
theorem Rep.freeze {φ : Loc} {M : Mem} {w : World} (h : Rep P idf φ M w) : Rep P idf φ M.freeze w := ⟨by simp, h.obj, h.inj⟩
theorem RCtx.same (C : RCtx P idf call ops ml tS MS vS φ₀) : ∀ n, n ≤ ops.size → MStep (MS 0) (MS n) ∧
   ∀ i, i ≤ n → (MS i).size ≤ (MS n).size ∧ ((∀ (j : Nat) (m : MOper), i ≤ j → j < n → ml[j]? = some m → m.q ≠ 2) → ∀ b, b < (MS i).size → (MS n).get b = (MS i).get b ∨ ((MS n).get b = some .dead ∧ KillIn ml tS i n)) := by
 intro n hn
 have := MS_same C.CS C.b0 C.tr (fun i m hm h0 => by rcases C.q i m hm with h | h | h <;> first | exact h.2 | omega) (fun i m hm => by rcases C.q i m hm with ⟨h, _⟩ | ⟨h, _⟩ | ⟨h, _⟩ <;> omega) n (by rw [C.len]; exact hn)
 exact this
theorem RCtx.dst (C : RCtx P idf call ops ml tS MS vS φ₀) (i : Nat) (o : Oper) (ho : ops[i]? = some o) : ∃ m, ml[i]? = some m ∧ m.dst = o.dst := by
 obtain ⟨m, m0, h1, h2, h3, _, _⟩ := C.m i o ho
 exact ⟨m, h1, h3.trans (compOper_op h2).2⟩
theorem RCtx.env (C : RCtx P idf call ops ml tS MS vS φ₀) (k n : Nat) (hn : n ≤ ops.size) : (tS n).length = (tS 0).length ∧
   ((∃ (j : Nat) (o : Oper), j < n ∧ ops[j]? = some o ∧ o.dst = some k ∧ (k < (tS 0).length → (tS n)[k]? = some (vS j))) ∨ ((∀ (j : Nat) (o : Oper), j < n → ops[j]? = some o → o.dst ≠ some k) ∧ (tS n)[k]? = (tS 0)[k]?)) := tS_get C.O C.dst C.len (fun i m hm => (C.tr i m hm).2) k n hn
theorem RCtx.slot (C : RCtx P idf call ops ml tS MS vS φ₀) {listed : Array Bool} {a : Act} {w : World} {φ : Loc} {L K : Nat} (R : RInv P idf ops ml tS MS vS φ₀ w₀ ds listed a w φ L K) {i : Nat} {o : Oper} (ho : ops[i]? = some o) (hnl : ¬ Listed listed i)
  (hready : ∀ e ∈ o.after.toList, Region.binds .any e = true → Listed listed e.on) {k : Nat} (hk : ∀ (j : Nat) (p : Oper), ops[j]? = some p → p.dst = some k → hasEdge o j = true ∨ hasEdge p i = true) :
  GRel (φ.upto (MS i).size) (tS i)[k]? a.tmps[k]? := by
 have hi : i < ops.size := (Array.getElem?_eq_some_iff.1 ho).1
 obtain ⟨hlen, henv⟩ := C.env k i (by omega)
 by_cases hkl : k < a.tmps.size
 ·rcases henv with ⟨j, p, hj, hp, hd, hv⟩ | ⟨hno, hv⟩
  ·-- written ahead of it
   have hlj : Listed listed j := by
    rcases hk j p hp hd with h | h
    ·obtain ⟨e, he, hb, rfl⟩ := hasEdge_spec h; exact hready e he hb
    ·obtain ⟨e, he, hb, rfl⟩ := hasEdge_spec h; have := C.O.back _ _ hp e he hb; omega
   obtain ⟨y, hy, hr⟩ := R.done j p k hp hd hlj hkl
   rw [hv (by rw [← R.tsize]; exact hkl), hy]
   refine .some (hr.mono (Loc.upto_le ?_ (fun _ _ h => h)))
   exact ((C.same i (by omega)).2 (j + 1) (by omega)).1
  ·-- as it was
   rw [hv]
   have := R.todo k hkl (fun j p hp hd hlj => by
    rcases hk j p hp hd with h | h
    ·obtain ⟨e, he, hb, rfl⟩ := hasEdge_spec h
     have := C.O.back _ _ ho e he hb
     exact hno _ _ this hp hd
    ·obtain ⟨e, he, hb, rfl⟩ := hasEdge_spec h
     exact hnl (R.closed _ _ hp hlj e he hb))
   refine this.mono fun b x hb => Loc.upto_of (R.stp.ext _ _ hb) ?_
   have := C.φ b x hb
   have := ((C.same i (by omega)).2 0 (by omega)).1
   omega
 ·have h1 : a.tmps[k]? = none := by simp; omega
  have h2 : (tS i)[k]? = none := by
   have := R.tsize
   simp; omega
  rw [h1, h2]; exact .none
theorem RCtx.dom_lt (C : RCtx P idf call ops ml tS MS vS φ₀) {listed : Array Bool} {a : Act} {w : World} {φ : Loc} {L K : Nat} (R : RInv P idf ops ml tS MS vS φ₀ w₀ ds listed a w φ L K) : ∀ b x, φ b = some x → b < (MS K).size := by
 intro b x hb
 have hk := R.kle
 cases h0 : φ₀ b with
 | some y =>
  have := C.φ b y h0
  have := ((C.same K hk).2 0 (by omega)).1
  omega
 | none =>
  obtain ⟨j, hj, h1, h2⟩ := R.dom b x hb h0
  have hjs : j < ops.size := by
   unfold Listed at hj
   have := R.size
   by_cases h : j < listed.size
   ·omega
   ·simp [Array.getD, h] at hj
  obtain ⟨m, m0, hm, _⟩ := C.m j ops[j] (by simp [hjs])
  have hjk : j < K := by
   refine R.below j m hm ?_ hj
   cases hp : pureOp m.op with
   | false => rfl
   | true =>
    rcases C.q j m hm with h | h | h
    ·obtain ⟨e, _⟩ := stepQ_pure h.1 hp (C.tr j m hm).1
     rw [e] at h2; omega
    ·rw [h.2] at hp; cases hp
    ·rw [h.2] at hp; cases hp
  have := ((C.same K hk).2 (j + 1) (by omega)).1
  omega
theorem RCtx.step (C : RCtx P idf call ops ml tS MS vS φ₀) {listed : Array Bool} {a : Act} {w : World} {φ : Loc} {L K : Nat} (R : RInv P idf ops ml tS MS vS φ₀ w₀ ds listed a w φ L K) {i : Nat} {o : Oper} (ho : ops[i]? = some o) (hnl : ¬ Listed listed i)
  (hready : ∀ e ∈ o.after.toList, Region.binds .any e = true → Listed listed e.on) {r : Option Nat} {Q : Exit → Act → World → Prop} {Kt : Act → World → Prop}
  (hK : ∀ φ' a' w' L' K', RInv P idf ops ml tS MS vS φ₀ w₀ ds (listed.setIfInBounds i true) a' w' φ' L' K' → Kt a' w') : wpOpIn (fenceAt r) 0 P ops Q i Kt a w := by
 have hi : i < ops.size := (Array.getElem?_eq_some_iff.1 ho).1
 have hil : i < listed.size := by rw [R.size]; exact hi
 obtain ⟨m, m0, hm, hc0, hd0, hg0, ho0⟩ := C.m i o ho
 have hdst : m.dst = o.dst := hd0.trans (compOper_op hc0).2
 have hls := fun j => listed_set hil j
 obtain ⟨htr, htn⟩ := C.tr i m hm
 have hbase : ∀ n, n ≤ ops.size → (MS n).base ≤ (MS n).size := fun n hn => (C.same n hn).1.ok C.b0
 have hv : ∀ x ∈ o.op.operands.toList, VRel (φ.upto (MS i).size) (ev (tS i) x) (a.eval x) := by
  intro x hx
  have hokx : okO x = true := by
   have := (compOp_ok (compOper_op hc0).1).1
   exact List.all_eq_true.1 this x hx
  cases x with
  | tmp k => exact getD_rel (C.slot R ho hnl hready (C.O.tmp i o k ho hx))
  | const v => exact VRel.okC hokx
  | global g => cases hokx
  | func f => exact .func f #[] #[] #[] #[] rfl rfl (fun i x y h => by simp at h) (fun i x y h => by simp at h)
 have hg : ∀ k b, m0.guard = some (k, b) → GRel (φ.upto (MS i).size) (tS i)[k]? a.tmps[k]? := by
  intro k b hgk
  unfold compOper at hc0
  simp only [Option.bind_eq_some_iff] at hc0
  obtain ⟨op, _, hc0⟩ := hc0
  split at hc0
  ·cases hc0; cases hgk
  ·rename_i j b' hgo
   obtain ⟨tmp, htmp, rfl⟩ := map_some hc0
   cases hgk
   have hedge := C.O.guard i o _ _ ho hgo
   refine C.slot R ho hnl hready fun j' p hp hd => ?_
   simp only [Option.bind_eq_some_iff] at htmp
   obtain ⟨pj, hpj, hdj⟩ := htmp
   have := C.O.dst _ _ _ _ _ hp hpj hd hdj
   subst this
   exact .inl hedge
 have newTmps : ∀ (φ' : Loc) (v' : Value), (∀ b x, φ b = some x → φ' b = some x) → VRel (φ'.upto (MS (i + 1)).size) (vS i) v' →
   ((a.put o.dst v').tmps.size = (tS 0).length) ∧
   (∀ (j : Nat) (p : Oper) (d : Tmp), ops[j]? = some p → p.dst = some d → Listed (listed.setIfInBounds i true) j → d < (a.put o.dst v').tmps.size → ∃ y, (a.put o.dst v').tmps[d]? = some y ∧ VRel (φ'.upto (MS (j + 1)).size) (vS j) y) ∧
   (∀ (d : Nat), d < (a.put o.dst v').tmps.size → (∀ (j : Nat) (p : Oper), ops[j]? = some p → p.dst = some d → ¬ Listed (listed.setIfInBounds i true) j) → GRel φ₀ (tS 0)[d]? (a.put o.dst v').tmps[d]?) ∧ (a.put o.dst v').defers = ds := by
  intro φ' v' hext hvr
  refine ⟨by rw [put_size]; exact R.tsize, fun j p d hp hd hlj hds => ?_, fun d hds hno => ?_, by rw [← R.ds]; cases o.dst <;> rfl⟩
  ·rw [put_size] at hds
   rcases (hls j).1 hlj with rfl | hlj'
   ·rw [ho] at hp; cases hp
    exact ⟨v', by rw [put_get, if_pos ⟨hd, hds⟩], hvr⟩
   ·have hne : j ≠ i := fun e => hnl (e ▸ hlj')
    obtain ⟨y, h1, h2⟩ := R.done j p d hp hd hlj' hds
    refine ⟨y, ?_, h2.mono (Loc.upto_le (Nat.le_refl _) hext)⟩
    rw [put_get, if_neg]
    ·exact h1
    ·rintro ⟨h, _⟩
     exact hne (C.O.dst _ _ _ _ _ hp ho hd h)
  ·rw [put_size] at hds
   rw [put_get, if_neg]
   ·exact R.todo d hds fun j p hp hd hlj => hno j p hp hd ((hls j).2 (.inr hlj))
   ·rintro ⟨h, _⟩
    exact hno i o ho h ((hls i).2 (.inl rfl))
 have newClosed : Closed ops (Listed (listed.setIfInBounds i true)) := by
  intro j p hp hlj e he hb
  rcases (hls j).1 hlj with rfl | hlj
  ·rw [ho] at hp; cases hp
   exact (hls _).2 (.inr (hready e he hb))
  ·exact (hls _).2 (.inr (R.closed j p hp hlj e he hb))
 have newSize : (listed.setIfInBounds i true).size = ops.size := by simpa using R.size
 have order : ∀ j, j < ops.size → j ≠ i → ∀ mj, ml[j]? = some mj → pureOp mj.op = false → pureOp m.op = false → (m.q = 2 ∨ mj.q = 2) → (Listed listed j ∧ j < i) ∨ (¬ Listed listed j ∧ i < j) := by
  intro j hj hne mj hmj hpj hpi hq
  have hoj : ops[j]? = some ops[j] := by simp [hj]
  have bit : ((aheads [] ops.toList).getD i 0).testBit j = true ∨ ((aheads [] ops.toList).getD j 0).testBit i = true := by
   rcases hq with h | h
   ·exact C.alone i j m mj hm h hmj hpj (Ne.symm hne)
   ·rcases C.alone j i mj m hmj h hm hpi hne with h | h
    ·exact .inr h
    ·exact .inl h
  rcases bit with h | h
  ·left
   exact ⟨ahead_in R.closed C.O.back j i o ho hready h, ahead_in (S := fun k => k < i) (fun k p hp hk e he hb => by have := C.O.back k p hp e he hb; omega) C.O.back j i o ho (fun e he hb => C.O.back i o ho e he hb) h⟩
  ·right
   refine ⟨fun hlj => hnl (ahead_in R.closed C.O.back i j _ hoj (fun e he hb => R.closed j _ hoj hlj e he hb) h), ?_⟩
   exact ahead_in (S := fun k => k < j) (fun k p hp hk e he hb => by have := C.O.back k p hp e he hb; omega) C.O.back i j _ hoj (fun e he hb => C.O.back j _ hoj e he hb) h
 rcases C.q i m hm with ⟨hq, hp⟩ | ⟨hq, hp⟩ | ⟨hq, hp⟩
 ·-- it does not look at memory
  obtain ⟨hMS, hany⟩ := stepQ_pure hq hp htr
  have hKn := R.kle
  have hrepK := R.rep K R.lle (Nat.le_refl _)
  rw [Loc.upto_eq (C.dom_lt R)] at hrepK
  have hdead := (hrepK.dead (ψ := φ.upto (MS i).size) (fun b x h => Loc.upto_sub b x h)).freeze
  have hst := hany (deadMem (MS K).size).freeze
  rw [stepVal_congr hg0 ho0] at hst
  refine step_sound C.CO C.ID ho hc0 hdead hv hg hst fun φ' v' w' h1 h2 h3 => hK φ (a.put o.dst v') w' L K ?_
  have hsame : ∀ b x, φ' b = some x → φ.upto (MS i).size b = some x := by
   intro b x hb
   cases h0 : φ.upto (MS i).size b with
   | some y => have := h3.ext _ _ h0; rw [hb] at this; exact this.symm ▸ rfl
   | none => have := h3.new b x hb h0; omega
  have hvr : VRel (φ.upto (MS (i + 1)).size) (vS i) v' := by rw [hMS]; exact h1.mono hsame
  obtain ⟨n1, n2, n3, n4⟩ := newTmps φ v' (fun _ _ h => h) hvr
  have hheap : ∀ c, c < w.heap.size → w'.heap[c]? = w.heap[c]? := fun c hc => h3.frame c hc fun b K' hb => by
   have := C.dom_lt R b _ (Loc.upto_sub _ _ hb)
   simpa [deadMem_size] using this
  have notW : ∀ (j : Nat) (mj : MOper), ml[j]? = some mj → mj.q = 2 → Listed (listed.setIfInBounds i true) j → Listed listed j := by
   intro j mj hmj hqj hlj
   rcases (hls j).1 hlj with rfl | h
   ·rw [hm] at hmj; cases hmj; omega
   ·exact h
  exact {
   size := newSize, closed := newClosed, kle := R.kle, lle := R.lle
   lw := R.lw.imp id fun ⟨m', h1, h2, h3⟩ => ⟨m', h1, h2, (hls _).2 (.inr h3)⟩
   nowr := R.nowr
   kdone := fun j mj hj hmj hqj => (hls j).2 (.inr (R.kdone j mj hj hmj hqj))
   knot := fun j mj hj hmj hqj hlj => R.knot j mj hj hmj hqj (notW j mj hmj hqj hlj)
   kW := R.kW
   below := fun j mj hmj hpj hlj => by
    rcases (hls j).1 hlj with rfl | h
    ·rw [hm] at hmj; cases hmj; rw [hp] at hpj; cases hpj
    ·exact R.below j mj hmj hpj h
   rep := fun j h1 h2 => (R.rep j h1 h2).keep hheap
   stp := R.stp.keep hheap h3.hsize h3.os h3.tape h3.output
   dom := fun b x hb h0 => by
    obtain ⟨j, h1, h2⟩ := R.dom b x hb h0
    exact ⟨j, (hls j).2 (.inr h1), h2⟩
   sep := fun hno => R.sep fun j m h1 h2 h3 hl => hno j m h1 h2 h3 ((hls j).2 (.inr hl))
   tsize := n1, done := n2, todo := n3, ds := n4 }
 ·have hiK : i < K := by
   rcases Nat.lt_trichotomy i K with h | h | h
   ·exact h
   ·subst h
    obtain ⟨m', hm', hq'⟩ := R.kW hi
    rw [hm] at hm'; cases hm'; omega
   ·exfalso
    have hKn : K < ops.size := by omega
    obtain ⟨mK, hmK, hqK⟩ := R.kW hKn
    have hpK : pureOp mK.op = false := by rcases C.q K mK hmK with h | h | h <;> first | exact h.2 | omega
    rcases order K hKn (by omega) mK hmK hpK hp (.inr hqK) with h | h
    ·exact R.knot K mK (Nat.le_refl _) hmK hqK h.1
    ·omega
  have hLi : L ≤ i := by
   rcases R.lw with h | ⟨mL, hmL, hqL, hlL⟩
   ·omega
   ·have hne : L - 1 ≠ i := fun e => hnl (e ▸ hlL)
    have hLs : L - 1 < ops.size := by have := (List.getElem?_eq_some_iff.1 hmL).1; rw [C.len] at this; exact this
    have hpL : pureOp mL.op = false := by rcases C.q _ mL hmL with h | h | h <;> first | exact h.2 | omega
    rcases order (L - 1) hLs hne mL hmL hpL hp (.inr hqL) with h | h
    ·omega
    ·exact absurd hlL h.1
  by_cases hkill : m.q = 3 ∧ killOp m (tS i) = true
  ·-- it gives a slice away
   obtain ⟨hq3, hkop⟩ := hkill
   obtain ⟨hop, bk, ck, tyk, hbk1, hbk2, hbk3, ⟨xk, hMk⟩, ty, bytes, size, str, s, x, off, len, cap, nn, hmop, hgk, hslk, hlnk⟩ := stepQ_kill hq3 hkop htr
   have hKn := R.kle
   have hno3 : ∀ (j : Nat) (m' : MOper), ml[j]? = some m' → m'.q = 3 → killOp m' (tS j) = true → ¬ Listed listed j := fun j m' h1 h2 _ hl => by
    rw [C.one j i m' m h1 h2 hm hq3] at hl; exact hnl hl
   have hsep := R.sep hno3
   have hrep := R.rep i hLi (by omega)
   refine step_sound_kill ho hc0 hrep hv hg (by rw [← ho0]; exact hmop) (by rw [← hg0]; exact hgk) hslk hlnk (by omega) (by rw [← ho0]; exact hop) fun φ₁ v' w' h1 h2 h3 h4 => ?_
   have h4' := h4
   obtain ⟨cr, Kr, csr, tr, hcr, hgetb, hother, c', c'', e4, e5, e6, e7, hnewc⟩ := h4'
   have hsz : (MS i).size ≤ (MS (i + 1)).size := ((C.same (i + 1) (by omega)).2 i (by omega)).1
   have hfree : ∀ b, (MS i).size ≤ b → b < (MS (i + 1)).size → φ b = none := by
    intro b hb1 hb2
    cases hb : φ b with
    | none => rfl
    | some x =>
     exfalso
     cases h0 : φ₀ b with
     | some y => have := C.φ b y h0; have := ((C.same i (by omega)).2 0 (by omega)).1; omega
     | none =>
      obtain ⟨j, hj, g1, g2⟩ := R.dom b x hb h0
      have hjs : j < ops.size := by
       unfold Listed at hj
       have := R.size
       by_cases h : j < listed.size
       ·omega
       ·simp [Array.getD, h] at hj
      have hne : j ≠ i := fun e => hnl (e ▸ hj)
      rcases Nat.lt_or_gt_of_ne hne with h | h
      ·have := ((C.same i (by omega)).2 (j + 1) (by omega)).1; omega
      ·have := ((C.same j (by omega)).2 (i + 1) (by omega)).1; omega
   have hd1 : ∀ b x, φ₁ b = some x → b < (MS (i + 1)).size := by
    intro b x hb
    cases h0 : φ.upto (MS i).size b with
    | some y =>
     have : b < (MS i).size := Loc.upto_lt h0
     omega
    | none => have := (h3.new b x hb h0).2; omega
   have hd2 : ∀ b x, φ₁ b = some x → (MS i).size ≤ b → φ.upto (MS i).size b = none := by
    intro b x hb hle; unfold Loc.upto; rw [if_neg (by omega)]
   obtain ⟨ψ, hψ⟩ : ∃ ψ : Loc, ψ = fun b => if (MS i).size ≤ b ∧ b < (MS (i + 1)).size then φ₁ b else φ b := ⟨_, rfl⟩
   have hext : ∀ b x, φ b = some x → ψ b = some x := by
    intro b x hb
    rw [hψ]; simp only
    split
    ·rename_i hc; rw [hfree b hc.1 hc.2] at hb; cases hb
    ·exact hb
   have hext1 : ∀ b x, φ₁ b = some x → ψ b = some x := by
    intro b x hb
    have hlt := hd1 b x hb
    rw [hψ]; simp only
    split
    ·exact hb
    ·rename_i hc
     cases h0 : φ.upto (MS i).size b with
     | some y =>
      have := h3.ext _ _ h0
      rw [hb] at this; cases this
      exact Loc.upto_sub _ _ h0
     | none => have := (h3.new b x hb h0).1; omega
   have hsplit : ∀ b x, ψ b = some x → (φ b = some x) ∨ ((MS i).size ≤ b ∧ b < (MS (i + 1)).size ∧ φ₁ b = some x) := by
    intro b x hb
    rw [hψ] at hb; simp only at hb
    split at hb
    ·rename_i hc; exact .inr ⟨hc.1, hc.2, hb⟩
    ·exact .inl hb
   have newc : ∀ b c K', (MS i).size ≤ b → φ₁ b = some (c, K') → w.heap.size ≤ c ∨ c = cr := fun b c K' hb1 hb => hnewc b c K' hb (hd2 b _ hb hb1)
   have balive : (MS i).get bk ≠ some .dead := by rw [hbk3]; simp
   have bdead : ∀ j, i < j → j ≤ K → (MS j).get bk = some .dead := fun j h1 h2 => by
    have e : (MS (i + 1)).get bk = some .dead := by rw [hMk, Mem.get_push, if_neg (by show ¬ bk = (MS i).size; omega), Mem.get_set _ _ _ hbk2, if_pos rfl]
    rcases ((C.same j (by omega)).2 (i + 1) (by omega)).2 (fun k mk hk1 hk2 hmk => R.nowr k mk (by omega) (by omega) hmk) bk (by omega) with h | h
    ·rw [h]; exact e
    ·exact h.1
   have keepj : ∀ j, L ≤ j → j ≤ K → Rep P idf (φ.upto (MS j).size) (MS j) w' := fun j hj1 hj2 => (R.rep j hj1 hj2).spare h4 fun b' c K₁ K₂ g1 g2 g3 => by
    have e : b' = bk := hsep j i b' bk c K₁ K₂ hj1 hj2 hLi (by omega) g1 g2 g3 balive
    rw [e] at g1 g3 ⊢
    by_cases hji : j ≤ i
    ·rcases ((C.same i (by omega)).2 j hji).2 (fun k mk hk1 hk2 hmk => R.nowr k mk (by omega) (by omega) hmk) bk (Loc.upto_lt g1) with h | h
     ·exact h.symm
     ·exact absurd h.1 balive
    ·exact absurd (bdead j (by omega) hj2) g3
   have hvr : VRel (ψ.upto (MS (i + 1)).size) (vS i) v' := h1.mono fun b x hb => Loc.upto_of (hext1 b x hb) (hd1 b x hb)
   obtain ⟨n1, n2, n3, n4⟩ := newTmps ψ v' hext hvr
   have notW : ∀ (j : Nat) (mj : MOper), ml[j]? = some mj → mj.q = 2 → Listed (listed.setIfInBounds i true) j → Listed listed j := by
    intro j mj hmj hqj hlj
    rcases (hls j).1 hlj with rfl | h
    ·rw [hm] at hmj; cases hmj; omega
    ·exact h
   refine hK ψ (a.put o.dst v') w' L K {
    size := newSize, closed := newClosed, kle := R.kle, lle := R.lle
    lw := R.lw.imp id fun ⟨m', h1, h2, h3⟩ => ⟨m', h1, h2, (hls _).2 (.inr h3)⟩
    nowr := R.nowr
    kdone := fun j mj hj hmj hqj => (hls j).2 (.inr (R.kdone j mj hj hmj hqj))
    knot := fun j mj hj hmj hqj hlj => R.knot j mj hj hmj hqj (notW j mj hmj hqj hlj)
    kW := R.kW
    below := fun j mj hmj hpj hlj => by
     rcases (hls j).1 hlj with rfl | h
     ·exact hiK
     ·exact R.below j mj hmj hpj h
    rep := fun j hj1 hj2 => ?_
    stp := ?_
    dom := fun b x hb h0 => by
     rcases hsplit b x hb with h | ⟨g1, g2, _⟩
     ·obtain ⟨j, h1, h2⟩ := R.dom b x h h0
      exact ⟨j, (hls j).2 (.inr h1), h2⟩
     ·exact ⟨i, (hls i).2 (.inl rfl), g1, g2⟩
    sep := fun hno => absurd ((hls i).2 (.inl rfl)) (hno i m hm hq3 hkop)
    tsize := n1, done := n2, todo := n3, ds := n4 }
   ·-- what lies there
    have hold := keepj j hj1 hj2
    by_cases hji : j ≤ i
    ·have e : ψ.upto (MS j).size = φ.upto (MS j).size := by
      funext b
      unfold Loc.upto
      split
      ·rename_i hb
       have := ((C.same i (by omega)).2 j hji).1
       rw [hψ]; simp only
       rw [if_neg (by omega)]
      ·rfl
     rw [e]; exact hold
    ·have hle1 : (MS (i + 1)).size ≤ (MS j).size := ((C.same j (by omega)).2 (i + 1) (by omega)).1
     have hget : ∀ b, b < (MS (i + 1)).size → (MS j).get b = (MS (i + 1)).get b ∨ (MS j).get b = some .dead := fun b hb => (((C.same j (by omega)).2 (i + 1) (by omega)).2 (fun k mk hk1 hk2 hmk => R.nowr k mk (by omega) (by omega) hmk) b hb).imp id And.left
     refine ⟨hbase j (by omega), fun b c K₁ hb => ?_, fun b₁ b₂ c K₁ K₂ e1 e2 l1 l2 => ?_⟩
     ·have hbj : b < (MS j).size := Loc.upto_lt hb
      rcases hsplit b _ (Loc.upto_sub _ _ hb) with h | ⟨g1, g2, g3⟩
      ·obtain ⟨o1, o2, k1, k2, k3⟩ := hold.obj b c K₁ (Loc.upto_of h hbj)
       exact ⟨o1, o2, k1, k2, k3.mono (Loc.upto_le (Nat.le_refl _) hext)⟩
      ·obtain ⟨o1, o2, k1, k2, k3⟩ := h2.obj b c K₁ g3
       rcases hget b g2 with e | e
       ·exact ⟨o1, o2, by rw [e]; exact k1, k2, k3.mono fun b x hb => Loc.upto_of (hext1 b x hb) (by have := hd1 b x hb; omega)⟩
       ·exact ⟨.dead, o2, e, k2, .dead _⟩
     ·have lt : ∀ b x, ψ.upto (MS j).size b = some x → b < (MS j).size := fun b x hb => Loc.upto_lt hb
      have oldc : ∀ b c K', φ b = some (c, K') → b < (MS j).size → c < w.heap.size := fun b c K' hb hbj => ((R.rep j hj1 hj2).lt (Loc.upto_of hb hbj)).2
      have clash : ∀ b b' c K' K'', φ b = some (c, K') → b < (MS j).size → (MS j).get b ≠ some .dead → (MS i).size ≤ b' → φ₁ b' = some (c, K'') → False := fun b b' c K' K'' y1 y2 y3 y4 y5 => by
       have := oldc _ _ _ y1 y2
       rcases newc _ _ _ y4 y5 with hc | hc
       ·omega
       ·have e := hsep j i b bk cr K' Kr hj1 hj2 hLi (by omega) (Loc.upto_of (hc ▸ y1) y2) hcr y3 balive
        rw [e] at y3
        exact y3 (bdead j (by omega) hj2)
      rcases hsplit b₁ _ (Loc.upto_sub _ _ e1) with h | ⟨g1, g2, g3⟩
      ·rcases hsplit b₂ _ (Loc.upto_sub _ _ e2) with h' | ⟨g1', g2', g3'⟩
       ·exact hold.inj b₁ b₂ c K₁ K₂ (Loc.upto_of h (lt _ _ e1)) (Loc.upto_of h' (lt _ _ e2)) l1 l2
       ·exact absurd (clash b₁ b₂ c K₁ K₂ h (lt _ _ e1) l1 g1' g3') id
      ·rcases hsplit b₂ _ (Loc.upto_sub _ _ e2) with h' | ⟨g1', g2', g3'⟩
       ·exact absurd (clash b₂ b₁ c K₂ K₁ h' (lt _ _ e2) l2 g1 g3) id
       ·refine h2.inj b₁ b₂ c K₁ K₂ g3 g3' ?_ ?_
        ·rw [(hget b₁ g2).resolve_right l1] at l1; exact l1
        ·rw [(hget b₂ g2').resolve_right l2] at l2; exact l2
   ·-- the step, from the start
    have hs := R.stp
    have hb0 : (MS i).base = (MS 0).base := (C.same i (by omega)).1.base
    have frm : ∀ c, c < w₀.heap.size → (∀ b K', φ₀ b = some (c, K') → b < (MS 0).base) → c ≠ cr := fun c hc hall e => by
     cases h0 : φ₀ bk with
     | some y =>
      have e' := hs.ext _ _ h0
      rw [Loc.upto_sub _ _ hcr] at e'; cases e'
      have := hall bk Kr (e ▸ h0); omega
     | none =>
      rcases hs.fresh bk _ _ (Loc.upto_sub _ _ hcr) h0 with h | ⟨b0, K0, h, hl⟩
      ·omega
      ·have := hall b0 K0 (e ▸ h); omega
    refine ⟨fun b x hb => hext _ _ (hs.ext b x hb), fun b x hb h0 => ?_, fun b c K' hb h0 => ?_, hs.base, hs.size, hs.ro, fun c hc hall => (hother c (frm c hc hall) (Nat.lt_of_lt_of_le hc hs.hsize)).trans (hs.frame c hc hall), Nat.le_trans hs.hsize h3.hsize, h3.os.trans hs.os, h3.tape.trans hs.tape, h3.output.trans hs.output⟩
    ·rcases hsplit b x hb with h | ⟨g1, g2, _⟩
     ·exact hs.new b x h h0
     ·have := ((C.same i (by omega)).2 0 (by omega)).1
      have := ((C.same K hKn).2 (i + 1) (by omega)).1
      omega
    ·rcases hsplit b _ hb with h | ⟨g1, g2, g3⟩
     ·exact hs.fresh b c K' h h0
     ·rcases newc b c K' g1 g3 with h | h
      ·exact .inl (Nat.le_trans hs.hsize h)
      ·rw [h]
       cases h0' : φ₀ bk with
       | some y =>
        have e := hs.ext _ _ h0'
        rw [Loc.upto_sub _ _ hcr] at e; cases e
        exact .inr ⟨bk, _, h0', by omega⟩
       | none => exact hs.fresh bk _ _ (Loc.upto_sub _ _ hcr) h0'
  have hq' : m.q = 1 ∨ (m.q = 3 ∧ killOp m (tS i) = false) := by
   rcases hq with h | h
   ·exact .inl h
   ·refine .inr ⟨h, ?_⟩
    cases hk : killOp m (tS i) with
    | false => rfl
    | true => exact absurd ⟨h, hk⟩ hkill
  obtain ⟨hkeep, M2, hst, hM2⟩ := stepQ_quiet C.CS hq' htr
  have hKn := R.kle
  have hrep := (R.rep i hLi (by omega)).freeze
  rw [stepVal_congr hg0 ho0] at hst
  refine step_sound C.CO C.ID ho hc0 hrep hv hg hst fun φ₁ v' w' h1 h2 h3 => ?_
  have hs1 : M2.size = (MS (i + 1)).size := by rw [hM2]; simp
  have hsz : (MS i).size ≤ (MS (i + 1)).size := ((C.same (i + 1) (by omega)).2 i (by omega)).1
  have hfree : ∀ b, (MS i).size ≤ b → b < (MS (i + 1)).size → φ b = none := by
   intro b hb1 hb2
   cases hb : φ b with
   | none => rfl
   | some x =>
    exfalso
    cases h0 : φ₀ b with
    | some y => have := C.φ b y h0; have := ((C.same i (by omega)).2 0 (by omega)).1; omega
    | none =>
     obtain ⟨j, hj, g1, g2⟩ := R.dom b x hb h0
     have hjs : j < ops.size := by
      unfold Listed at hj
      have := R.size
      by_cases h : j < listed.size
      ·omega
      ·simp [Array.getD, h] at hj
     have hne : j ≠ i := fun e => hnl (e ▸ hj)
     rcases Nat.lt_or_gt_of_ne hne with h | h
     ·have := ((C.same i (by omega)).2 (j + 1) (by omega)).1; omega
     ·have := ((C.same j (by omega)).2 (i + 1) (by omega)).1; omega
  have hd1 : ∀ b x, φ₁ b = some x → b < (MS (i + 1)).size := by
   intro b x hb
   cases h0 : φ.upto (MS i).size b with
   | some y =>
    have : b < (MS i).size := Loc.upto_lt h0
    omega
   | none => have := (h3.new b x hb h0).2; omega
  have hd2 : ∀ b x, φ₁ b = some x → (MS i).size ≤ b → φ.upto (MS i).size b = none := by
   intro b x hb hle; unfold Loc.upto; rw [if_neg (by omega)]
  obtain ⟨ψ, hψ⟩ : ∃ ψ : Loc, ψ = fun b => if (MS i).size ≤ b ∧ b < (MS (i + 1)).size then φ₁ b else φ b := ⟨_, rfl⟩
  have hext : ∀ b x, φ b = some x → ψ b = some x := by
   intro b x hb
   rw [hψ]; simp only
   split
   ·rename_i hc; rw [hfree b hc.1 hc.2] at hb; cases hb
   ·exact hb
  have hext1 : ∀ b x, φ₁ b = some x → ψ b = some x := by
   intro b x hb
   have hlt := hd1 b x hb
   rw [hψ]; simp only
   split
   ·exact hb
   ·rename_i hc
    cases h0 : φ.upto (MS i).size b with
    | some y =>
     have := h3.ext _ _ h0
     rw [hb] at this; cases this
     exact Loc.upto_sub _ _ h0
    | none => have := (h3.new b x hb h0).1; simp at this; omega
  have hsplit : ∀ b x, ψ b = some x → (φ b = some x) ∨ ((MS i).size ≤ b ∧ b < (MS (i + 1)).size ∧ φ₁ b = some x) := by
   intro b x hb
   rw [hψ] at hb; simp only at hb
   split at hb
   ·rename_i hc; exact .inr ⟨hc.1, hc.2, hb⟩
   ·exact .inl hb
  have hheap : ∀ c, c < w.heap.size → w'.heap[c]? = w.heap[c]? := fun c hc => h3.frame c hc fun b K' hb => by
   unfold Loc.upto at hb
   split at hb
   ·simpa using (by assumption)
   ·cases hb
  have hvr : VRel (ψ.upto (MS (i + 1)).size) (vS i) v' := h1.mono fun b x hb => Loc.upto_of (hext1 b x hb) (hd1 b x hb)
  obtain ⟨n1, n2, n3, n4⟩ := newTmps ψ v' hext hvr
  have notW : ∀ (j : Nat) (mj : MOper), ml[j]? = some mj → mj.q = 2 → Listed (listed.setIfInBounds i true) j → Listed listed j := by
   intro j mj hmj hqj hlj
   rcases (hls j).1 hlj with rfl | h
   ·rw [hm] at hmj; cases hmj; omega
   ·exact h
  refine hK ψ (a.put o.dst v') w' L K {
   size := newSize, closed := newClosed, kle := R.kle, lle := R.lle
   lw := R.lw.imp id fun ⟨m', h1, h2, h3⟩ => ⟨m', h1, h2, (hls _).2 (.inr h3)⟩
   nowr := R.nowr
   kdone := fun j mj hj hmj hqj => (hls j).2 (.inr (R.kdone j mj hj hmj hqj))
   knot := fun j mj hj hmj hqj hlj => R.knot j mj hj hmj hqj (notW j mj hmj hqj hlj)
   kW := R.kW
   below := fun j mj hmj hpj hlj => by
    rcases (hls j).1 hlj with rfl | h
    ·exact hiK
    ·exact R.below j mj hmj hpj h
   rep := fun j hj1 hj2 => ?_
   stp := ?_
   dom := fun b x hb h0 => by
    rcases hsplit b x hb with h | ⟨g1, g2, _⟩
    ·obtain ⟨j, h1, h2⟩ := R.dom b x h h0
     exact ⟨j, (hls j).2 (.inr h1), h2⟩
    ·exact ⟨i, (hls i).2 (.inl rfl), g1, g2⟩
   sep := fun hno j₁ j₂ b₁ b₂ c K₁ K₂ x1 x2 x3 x4 e1 e2 l1 l2 => by
    have old := R.sep fun j m h1 h2 h3 hl => hno j m h1 h2 h3 ((hls j).2 (.inr hl))
    have newc : ∀ b c K', (MS i).size ≤ b → φ₁ b = some (c, K') → w.heap.size ≤ c := by
     intro b c K' hb1 hb
     rcases h3.fresh b c K' hb (hd2 b _ hb hb1) with h | ⟨b0, K0, h, hl⟩
     ·exact h
     ·exfalso
      unfold Loc.upto at h
      split at h
      ·simp at hl; omega
      ·cases h
    have oldc : ∀ b c K', φ b = some (c, K') → c < w.heap.size := fun b c K' hb => by
     have hbK := C.dom_lt R b _ hb
     exact ((R.rep K R.lle (Nat.le_refl _)).lt (Loc.upto_of hb hbK)).2
    have alive : ∀ j b, L ≤ j → j ≤ K → (MS i).size ≤ b → b < (MS (i + 1)).size → b < (MS j).size → (MS j).get b ≠ some .dead → M2.get b ≠ some .dead := fun j b y1 y2 y3 y4 y5 y6 => by
     have hij : i < j := by
      rcases Nat.lt_or_ge i j with h | h
      ·exact h
      ·have := ((C.same i (by omega)).2 j h).1; omega
     have := (((C.same j (by omega)).2 (i + 1) (by omega)).2 (fun k mk hk1 hk2 hmk => R.nowr k mk (by omega) (by omega) hmk) b y4).imp id And.left
     rw [this.resolve_right y6, hM2] at y6
     exact y6
    rcases hsplit b₁ _ (Loc.upto_sub _ _ e1) with h | ⟨g1, g2, g3⟩
    ·rcases hsplit b₂ _ (Loc.upto_sub _ _ e2) with h' | ⟨g1', g2', g3'⟩
     ·exact old j₁ j₂ b₁ b₂ c K₁ K₂ x1 x2 x3 x4 (Loc.upto_of h (Loc.upto_lt e1)) (Loc.upto_of h' (Loc.upto_lt e2)) l1 l2
     ·have := oldc _ _ _ h; have := newc _ _ _ g1' g3'; omega
    ·rcases hsplit b₂ _ (Loc.upto_sub _ _ e2) with h' | ⟨g1', g2', g3'⟩
     ·have := oldc _ _ _ h'; have := newc _ _ _ g1 g3; omega
     ·exact h2.inj b₁ b₂ c K₁ K₂ g3 g3' (alive j₁ b₁ x1 x2 g1 g2 (Loc.upto_lt e1) l1) (alive j₂ b₂ x3 x4 g1' g2' (Loc.upto_lt e2) l2)
   tsize := n1, done := n2, todo := n3, ds := n4 }
  ·-- what lies there
   have hold := (R.rep j hj1 hj2).keep hheap
   by_cases hji : j ≤ i
   ·have e : ψ.upto (MS j).size = φ.upto (MS j).size := by
     funext b
     unfold Loc.upto
     split
     ·rename_i hb
      have := ((C.same i (by omega)).2 j hji).1
      rw [hψ]; simp only
      rw [if_neg (by omega)]
     ·rfl
    rw [e]; exact hold
   ·have hle1 : (MS (i + 1)).size ≤ (MS j).size := ((C.same j (by omega)).2 (i + 1) (by omega)).1
    have hget : ∀ b, b < (MS (i + 1)).size → (MS j).get b = (MS (i + 1)).get b ∨ (MS j).get b = some .dead := fun b hb => (((C.same j (by omega)).2 (i + 1) (by omega)).2 (fun k mk hk1 hk2 hmk => R.nowr k mk (by omega) (by omega) hmk) b hb).imp id And.left
    refine ⟨hbase j (by omega), fun b c K₁ hb => ?_, fun b₁ b₂ c K₁ K₂ e1 e2 l1 l2 => ?_⟩
    ·have hbj : b < (MS j).size := Loc.upto_lt hb
     rcases hsplit b _ (Loc.upto_sub _ _ hb) with h | ⟨g1, g2, g3⟩
     ·obtain ⟨o1, o2, k1, k2, k3⟩ := hold.obj b c K₁ (Loc.upto_of h hbj)
      exact ⟨o1, o2, k1, k2, k3.mono (Loc.upto_le (Nat.le_refl _) hext)⟩
     ·obtain ⟨o1, o2, k1, k2, k3⟩ := h2.obj b c K₁ g3
      have : (MS (i + 1)).get b = M2.get b := by rw [hM2]; rfl
      rcases hget b g2 with e | e
      ·exact ⟨o1, o2, by rw [e, this]; exact k1, k2, k3.mono fun b x hb => Loc.upto_of (hext1 b x hb) (by have := hd1 b x hb; omega)⟩
      ·exact ⟨.dead, o2, e, k2, .dead _⟩
    ·have lt : ∀ b x, ψ.upto (MS j).size b = some x → b < (MS j).size := fun b x hb => Loc.upto_lt hb
     have newc : ∀ b c K', (MS i).size ≤ b → φ₁ b = some (c, K') → w.heap.size ≤ c := by
      intro b c K' hb1 hb
      rcases h3.fresh b c K' hb (hd2 b _ hb hb1) with h | ⟨b0, K0, h, hl⟩
      ·exact h
      ·exfalso
       unfold Loc.upto at h
       split at h
       ·simp at hl; omega
       ·cases h
     have oldc : ∀ b c K', φ b = some (c, K') → b < (MS j).size → c < w.heap.size := fun b c K' hb hbj => ((R.rep j hj1 hj2).lt (Loc.upto_of hb hbj)).2
     rcases hsplit b₁ _ (Loc.upto_sub _ _ e1) with h | ⟨g1, g2, g3⟩
     ·rcases hsplit b₂ _ (Loc.upto_sub _ _ e2) with h' | ⟨g1', g2', g3'⟩
      ·exact hold.inj b₁ b₂ c K₁ K₂ (Loc.upto_of h (lt _ _ e1)) (Loc.upto_of h' (lt _ _ e2)) l1 l2
      ·have := oldc _ _ _ h (lt _ _ e1); have := newc _ _ _ g1' g3'; omega
     ·rcases hsplit b₂ _ (Loc.upto_sub _ _ e2) with h' | ⟨g1', g2', g3'⟩
      ·have := oldc _ _ _ h' (lt _ _ e2); have := newc _ _ _ g1 g3; omega
      ·refine h2.inj b₁ b₂ c K₁ K₂ g3 g3' ?_ ?_
       ·rw [(hget b₁ g2).resolve_right l1, hM2] at l1; exact l1
       ·rw [(hget b₂ g2').resolve_right l2, hM2] at l2; exact l2
  ·-- the step, from the start
   have hs := R.stp
   refine ⟨fun b x hb => hext _ _ (hs.ext b x hb), fun b x hb h0 => ?_, fun b c K' hb h0 => ?_, hs.base, hs.size, hs.ro, fun c hc hall => (hheap c (Nat.lt_of_lt_of_le hc hs.hsize)).trans (hs.frame c hc hall), Nat.le_trans hs.hsize h3.hsize, h3.os.trans hs.os, h3.tape.trans hs.tape, h3.output.trans hs.output⟩
   ·rcases hsplit b x hb with h | ⟨g1, g2, _⟩
    ·exact hs.new b x h h0
    ·have := ((C.same i (by omega)).2 0 (by omega)).1
     have := ((C.same K hKn).2 (i + 1) (by omega)).1
     omega
   ·rcases hsplit b _ hb with h | ⟨g1, g2, g3⟩
    ·exact hs.fresh b c K' h h0
    ·left
     rcases h3.fresh b c K' g3 (hd2 b _ g3 g1) with h | ⟨b0, K0, h, hl⟩
     ·exact Nat.le_trans hs.hsize h
     ·exfalso
      unfold Loc.upto at h
      split at h
      ·simp at hl; omega
      ·cases h
 ·-- it may write: all that look at memory are done ahead of it, or behind it
  have hKi : K = i := by
   have h1 : K ≤ i := by
    rcases Nat.lt_or_ge i K with h | h
    ·exact absurd (R.kdone i m h hm hq) hnl
    ·exact h
   rcases Nat.lt_or_ge K i with h | h
   ·exfalso
    have hKn : K < ops.size := by omega
    obtain ⟨mK, hmK, hqK⟩ := R.kW hKn
    have hpK : pureOp mK.op = false := by rcases C.q K mK hmK with h | h | h <;> first | exact h.2 | omega
    rcases order K hKn (by omega) mK hmK hpK hp (.inr hqK) with h | h
    ·exact R.knot K mK (Nat.le_refl _) hmK hqK h.1
    ·omega
   ·omega
  subst hKi
  have hst := htr
  unfold stepQ at hst
  rw [if_neg (by omega), stepVal_congr hg0 ho0] at hst
  have hup := Loc.upto_eq (C.dom_lt R)
  have hrep := R.rep K R.lle (Nat.le_refl _)
  refine step_sound C.CO C.ID ho hc0 hrep hv hg hst fun φ₁ v' w' h1 h2 h3 => ?_
  rw [hup] at h3
  have hd1 : ∀ b x, φ₁ b = some x → b < (MS (K + 1)).size := by
   intro b x hb
   cases h0 : φ b with
   | some y => have := C.dom_lt R b y h0; have := h3.size; omega
   | none => exact (h3.new b x hb h0).2
  obtain ⟨n1, n2, n3, n4⟩ := newTmps φ₁ v' h3.ext (by rw [Loc.upto_eq hd1]; exact h1)
  obtain ⟨K', k1, k2, k3, k4⟩ := next_w ops.size (fun j => ∃ m : MOper, ml[j]? = some m ∧ m.q = 2) (ops.size - (K + 1)) (K + 1) (by omega)
  have hnow : ∀ (j : Nat) (mj : MOper), K + 1 ≤ j → j < K' → ml[j]? = some mj → mj.q ≠ 2 := fun j mj h1 h2 hmj hqj => k3 j h1 h2 ⟨mj, hmj, hqj⟩
  refine hK φ₁ (a.put o.dst v') w' (K + 1) K' {
   size := newSize, closed := newClosed, kle := k2, lle := k1
   lw := .inr ⟨m, hm, hq, (hls _).2 (.inl rfl)⟩
   nowr := hnow
   kdone := fun j mj hj hmj hqj => by
    rcases Nat.lt_trichotomy j K with h | h | h
    ·exact (hls j).2 (.inr (R.kdone j mj h hmj hqj))
    ·exact (hls j).2 (.inl h)
    ·exact absurd hqj (hnow j mj h hj hmj)
   knot := fun j mj hj hmj hqj hlj => by
    rcases (hls j).1 hlj with h | h
    ·omega
    ·exact R.knot j mj (by omega) hmj hqj h
   kW := fun h => k4 h
   below := fun j mj hmj hpj hlj => by
    rcases (hls j).1 hlj with h | h
    ·omega
    ·have := R.below j mj hmj hpj h; omega
   rep := fun j hj1 hj2 => ?_
   stp := ?_
   dom := fun b x hb h0 => by
    cases h : φ b with
    | some y =>
     obtain ⟨j, g1, g2⟩ := R.dom b y h h0
     exact ⟨j, (hls j).2 (.inr g1), g2⟩
    | none =>
     obtain ⟨g1, g2⟩ := h3.new b x hb h
     exact ⟨K, (hls K).2 (.inl rfl), g1, g2⟩
   sep := fun _ j₁ j₂ b₁ b₂ c K₁ K₂ x1 x2 x3 x4 e1 e2 l1 l2 => by
    have alive : ∀ j b x, K + 1 ≤ j → j ≤ K' → φ₁ b = some x → (MS j).get b ≠ some .dead → (MS (K + 1)).get b ≠ some .dead := fun j b x y1 y2 hb y6 => by
     have := (((C.same j (by omega)).2 (K + 1) (by omega)).2 (fun k mk hk1 hk2 hmk => hnow k mk hk1 (by omega) hmk) b (hd1 b x hb)).imp id And.left
     rw [this.resolve_right y6] at y6
     exact y6
    have e1 := Loc.upto_sub _ _ e1
    have e2 := Loc.upto_sub _ _ e2
    exact h2.inj b₁ b₂ c K₁ K₂ e1 e2 (alive j₁ b₁ _ x1 x2 e1 l1) (alive j₂ b₂ _ x3 x4 e2 l2)
   tsize := n1, done := n2, todo := n3, ds := n4 }
  ·have hle1 := ((C.same j (by omega)).2 (K + 1) (by omega)).1
   have hget : ∀ b, b < (MS (K + 1)).size → (MS j).get b = (MS (K + 1)).get b ∨ (MS j).get b = some .dead := fun b hb => (((C.same j (by omega)).2 (K + 1) (by omega)).2 (fun k mk hk1 hk2 hmk => hnow k mk hk1 (by omega) hmk) b hb).imp id And.left
   rw [Loc.upto_eq (fun b x hb => by have := hd1 b x hb; omega)]
   refine ⟨hbase j (by omega), fun b c K₁ hb => ?_, fun b₁ b₂ c K₁ K₂ e1 e2 l1 l2 => ?_⟩
   ·obtain ⟨o1, o2, q1, q2, q3⟩ := h2.obj b c K₁ hb
    rcases hget b (hd1 b _ hb) with e | e
    ·exact ⟨o1, o2, by rw [e]; exact q1, q2, q3⟩
    ·exact ⟨.dead, o2, e, q2, .dead _⟩
   ·rw [(hget b₁ (hd1 _ _ e1)).resolve_right l1] at l1
    rw [(hget b₂ (hd1 _ _ e2)).resolve_right l2] at l2
    exact h2.inj b₁ b₂ c K₁ K₂ e1 e2 l1 l2
  ·have hs := R.stp.trans h3
   have hle1 := ((C.same K' k2).2 (K + 1) k1).1
   have hb0 := C.b0
   refine ⟨hs.ext, fun b x hb h0 => ?_, hs.fresh, (C.same K' k2).1.base, ((C.same K' k2).2 0 (by omega)).1, (C.same K' k2).1.ro, hs.frame, hs.hsize, hs.os, hs.tape, hs.output⟩
   have := hs.new b x hb h0
   omega
theorem RCtx.all (C : RCtx P idf call ops ml tS MS vS φ₀) {r : Option Nat} {Q : Exit → Act → World → Prop} (hQ : ∀ φ' a' w', LRel φ' (tS ops.size) a'.tmps.toList → a'.defers = ds → Rep P idf φ' (MS ops.size) w' → Stp φ₀ (MS 0) w₀ φ' (MS ops.size) w' → Q .normal a' w') :
  ∀ (n : Nat) (listed : Array Bool) (a : Act) (w : World) (φ : Loc) (L K : Nat), ((List.range ops.size).filter fun i => !listed.getD i false).length ≤ n → RInv P idf ops ml tS MS vS φ₀ w₀ ds listed a w φ L K →
   wpAnyIn (fenceAt r) 0 P .any ops Q n listed a w := by
 have fin : ∀ (listed : Array Bool) (a : Act) (w : World) (φ : Loc) (L K : Nat), RInv P idf ops ml tS MS vS φ₀ w₀ ds listed a w φ L K → (∀ i, i < ops.size → Listed listed i) → Q .normal a w := by
  intro listed a w φ L K R hall
  have hKn : K = ops.size := by
   have := R.kle
   rcases Nat.lt_or_ge K ops.size with h | h
   ·obtain ⟨m, hm, hq⟩ := R.kW h
    exact absurd (hall K h) (R.knot K m (Nat.le_refl _) hm hq)
   ·omega
  subst hKn
  have hrep := R.rep ops.size R.lle (Nat.le_refl _)
  have hup := Loc.upto_eq (C.dom_lt R)
  rw [hup] at hrep
  refine hQ φ a w (LRel.of_idx _ _ ?_ ?_) R.ds hrep R.stp
  ·have := (C.env 0 ops.size (Nat.le_refl _)).1
   have := R.tsize
   simp; omega
  ·intro k x y hx hy
   obtain ⟨hlen, henv⟩ := C.env k ops.size (Nat.le_refl _)
   have hy' : a.tmps[k]? = some y := by simpa using hy
   have hk : k < a.tmps.size := (Array.getElem?_eq_some_iff.1 hy').1
   rcases henv with ⟨j, o, hj, ho, hd, hv⟩ | ⟨hno, hv⟩
   ·rw [hv (by rw [← R.tsize]; exact hk)] at hx
    cases hx
    obtain ⟨y', h1, h2⟩ := R.done j o k ho hd (hall j hj) hk
    rw [hy'] at h1; cases h1
    exact h2.mono Loc.upto_sub
   ·rw [hv] at hx
    have := R.todo k hk (fun j o ho hd => absurd hd (hno j o ((Array.getElem?_eq_some_iff.1 ho).1) ho))
    rw [hx, hy'] at this
    cases this with
    | some h => exact h.mono R.stp.ext
 have dead : ∀ (listed : Array Bool) (a : Act) (w : World) (φ : Loc) (L K : Nat), RInv P idf ops ml tS MS vS φ₀ w₀ ds listed a w φ L K → Region.ready .any ops listed = [] → ∀ i, i < ops.size → Listed listed i := by
  intro listed a w φ L K R hr i
  induction i using Nat.strongRecOn with
  | _ i ih =>
   intro hi
   by_cases hl : Listed listed i
   ·exact hl
   ·exfalso
    have hmem : i ∈ Region.ready .any ops listed := by
     rw [mem_ready]
     refine ⟨?_, ops[i], by simp [hi], fun e he hb => ?_⟩
     ·unfold Listed at hl
      have hil : i < listed.size := by rw [R.size]; exact hi
      simpa [Array.getD, hil] using hl
     ·have hlt := C.O.back i ops[i] (by simp [hi]) e (Array.mem_toList_iff.2 he) hb
      exact ih e.on hlt (by omega)
    rw [hr] at hmem
    cases hmem
 intro n
 induction n with
 | zero =>
  intro listed a w φ L K hn R
  have hall : ∀ i, i < ops.size → Listed listed i := by
   intro i hi
   have h0 : ((List.range ops.size).filter fun i => !listed.getD i false) = [] := List.eq_nil_of_length_eq_zero (by omega)
   have := List.filter_eq_nil_iff.1 h0 i (by simpa using hi)
   unfold Listed
   simpa using this
  refine ⟨?_, fin _ _ _ _ _ _ R hall⟩
  apply List.eq_nil_iff_forall_not_mem.2
  intro i hi
  rw [mem_ready] at hi
  obtain ⟨h1, o, h2, _⟩ := hi
  have hlt := (Array.getElem?_eq_some_iff.1 h2).1
  have := hall i hlt
  unfold Listed at this
  have hil : i < listed.size := by rw [R.size]; exact hlt
  simp [Array.getD, hil] at this h1
  rw [this] at h1; cases h1
 | succ n ih =>
  intro listed a w φ L K hn R
  refine ⟨fun hr => fin _ _ _ _ _ _ R (dead _ _ _ _ _ _ R hr), fun i hi => ?_⟩
  rw [mem_ready] at hi
  obtain ⟨h1, o, ho, hedge⟩ := hi
  have hlt := (Array.getElem?_eq_some_iff.1 ho).1
  have hil : i < listed.size := by rw [R.size]; exact hlt
  have hnl : ¬ Listed listed i := by
   unfold Listed
   simp [Array.getD, hil] at h1 ⊢
   exact h1
  refine C.step R ho hnl (fun e he hb => hedge e (Array.mem_toList_iff.1 he) hb) fun φ' a' w' L' K' R' => ih _ _ _ _ _ _ ?_ R'
  have hlt2 : ((List.range ops.size).filter fun j => !(listed.setIfInBounds i true).getD j false).length < ((List.range ops.size).filter fun j => !listed.getD j false).length := by
   have e : ((List.range ops.size).filter fun j => !(listed.setIfInBounds i true).getD j false) = (((List.range ops.size).filter fun j => !listed.getD j false).filter fun j => decide (j ≠ i)) := by
    rw [List.filter_filter]
    apply List.filter_congr
    intro j _
    have := listed_set hil j
    unfold Listed at this
    cases h1 : (listed.setIfInBounds i true).getD j false <;> cases h2 : listed.getD j false <;> rw [h1, h2] at this <;> simp at this ⊢ <;> simp [this]
   rw [e]
   apply List.length_filter_lt_length_iff_exists.2
   refine ⟨i, ?_, by simp⟩
   rw [List.mem_filter]
   refine ⟨by simpa using hlt, ?_⟩
   unfold Listed at hnl
   simpa using hnl
  omega
end
end Go.Proofs.Ytifemfnjoobiiaa.Run
