/- A region whose order is drawn, in which boxes are made that are filled once: what fills them is told behind the region. No statement of the program's is proved here. -/
import Derived.Test.YtifemfnjoobiiaaRunN
namespace Go.Proofs.Ytifemfnjoobiiaa.Run
open Go Go.RowKit
set_option linter.unusedVariables false
set_option linter.unusedSimpArgs false
section
variable {P : Program} {idf : FuncId → Bool} {call : CallF} {ops : Array Oper} {ml : List MOper} {tS : Nat → List Value} {MS : Nat → Mem} {vS : Nat → Value} {φ₀ : Loc} {w₀ : World} {ds : List Deferred} {fl : List Flux}
structure FCtx (P : Program) (idf : FuncId → Bool) (call : CallF) (ops : Array Oper) (ml : List MOper) (tS : Nat → List Value) (MS : Nat → Mem) (vS : Nat → Value) (φ₀ : Loc) (fl : List Flux) : Prop where
 CO : CallOK P idf call
 CS : CallStep call
 ID : IdOK P idf
 O : OrderOk ops
 len : ml.length = ops.size
 m : ∀ (i : Nat) (o : Oper), ops[i]? = some o → ∃ m m0, ml[i]? = some m ∧ compOper P idf ops o = some m0 ∧ m.dst = m0.dst ∧
  ((m.guard = m0.guard ∧ m.op = m0.op ∧ ((m.q = 0 ∧ pureOp m.op = true) ∨ (m.q = 1 ∧ pureOp m.op = false)) ∧ ∀ f ∈ fl, f.jb ≠ i ∧ f.js ≠ i) ∨
   (∃ f ∈ fl, ∃ z, f.jb = i ∧ m.guard = none ∧ m0.guard = none ∧ m.q = 1 ∧ m.op = .boxD ∧ m0.op = .box f.ty (.const z) ∧ z.cells.size = f.n ∧ notTup z = true ∧ m0.dst = some f.p ∧ ∀ g ∈ fl, g.js ≠ i) ∨
   (∃ f ∈ fl, f.js = i ∧ m.guard = none ∧ m0.guard = none ∧ m.q = 0 ∧ m.op = .val (.const (.bool true)) ∧ m0.op = .store f.n (.tmp f.p) f.x ∧ m0.dst = none ∧ ∀ g ∈ fl, g.jb ≠ i))
 f : ∀ f ∈ fl, f.jb < f.js ∧ f.js < ops.size ∧ okO f.x = true ∧ ∃ o, ops[f.js]? = some o ∧ hasEdge o f.jb = true
 uj : ∀ f ∈ fl, ∀ g ∈ fl, f.jb = g.jb → f = g
 us : ∀ f ∈ fl, ∀ g ∈ fl, f.js = g.js → f = g
 late : ∀ f ∈ fl, (ev (tS f.js) f.x).cells.size = f.n ∧ notTup (ev (tS f.js) f.x) = true ∧ f.p < (tS 0).length
 tr : ∀ (i : Nat) (m : MOper), ml[i]? = some m → stepQ call m (tS i) (MS i) = some (vS i, MS (i + 1)) ∧ tS (i + 1) = putT (tS i) m.dst (vS i)
 b0 : (MS 0).base ≤ (MS 0).size
 φ : ∀ b x, φ₀ b = some x → b < (MS 0).size
def FluxOK (P : Program) (tS : Nat → List Value) (MS : Nat → Mem) (w₀ : World) (fl : List Flux) (listed : Array Bool) (w : World) (φ : Loc) : Prop :=
 ∀ f ∈ fl, Listed listed f.jb → ∃ c K c', φ (MS f.jb).size = some (c, K) ∧ w.heap[c]? = some (.cells c' f.ty (0, 0)) ∧ f.n ≤ c'.size ∧ K * P.cellsOf f.ty ≤ c'.size ∧ w₀.heap.size ≤ c ∧ (∀ b K', φ b = some (c, K') → b = (MS f.jb).size) ∧
  (Listed listed f.js → ∃ y, VRel φ (ev (tS f.js) f.x) y ∧ c'.toList.take f.n = y.cells.toList)
structure FInv (P : Program) (idf : FuncId → Bool) (ops : Array Oper) (ml : List MOper) (tS : Nat → List Value) (MS : Nat → Mem) (vS : Nat → Value) (φ₀ : Loc) (w₀ : World) (ds : List Deferred) (fl : List Flux) (listed : Array Bool) (a : Act) (w : World) (φ : Loc) : Prop where
 size : listed.size = ops.size
 closed : Closed ops (Listed listed)
 rep : ∀ i, i ≤ ops.size → Rep P idf (φ.upto (MS i).size) (MS i) w
 stp : Stp φ₀ (MS 0) w₀ φ (MS ops.size) w
 dom : ∀ b x, φ b = some x → φ₀ b = none → ∃ j, Listed listed j ∧ (MS j).size ≤ b ∧ b < (MS (j + 1)).size
 tsize : a.tmps.size = (tS 0).length
 done : ∀ (j : Nat) (o : Oper) (d : Tmp), ops[j]? = some o → o.dst = some d → Listed listed j → d < a.tmps.size → ∃ y, a.tmps[d]? = some y ∧ VRel (φ.upto (MS (j + 1)).size) (vS j) y
 todo : ∀ (d : Nat), d < a.tmps.size → (∀ (j : Nat) (o : Oper), ops[j]? = some o → o.dst = some d → ¬ Listed listed j) → GRel φ₀ (tS 0)[d]? a.tmps[d]?
 ds : a.defers = ds
 flux : FluxOK P tS MS w₀ fl listed w φ
theorem FCtx.dst (C : FCtx P idf call ops ml tS MS vS φ₀ fl) (i : Nat) (o : Oper) (ho : ops[i]? = some o) : ∃ m, ml[i]? = some m ∧ m.dst = o.dst := by
 obtain ⟨m, m0, h1, h2, h3, _⟩ := C.m i o ho
 exact ⟨m, h1, h3.trans (compOper_op h2).2⟩
theorem FCtx.q (C : FCtx P idf call ops ml tS MS vS φ₀ fl) (i : Nat) (m : MOper) (hm : ml[i]? = some m) : (m.q = 0 ∧ pureOp m.op = true) ∨ (m.q = 1 ∧ pureOp m.op = false) := by
 have hi := (List.getElem?_eq_some_iff.1 hm).1
 rw [C.len] at hi
 obtain ⟨m', m0, h1, _, _, h⟩ := C.m i ops[i] (by simp [hi])
 rw [hm] at h1
 cases h1
 rcases h with h | ⟨f, _, z, _, _, _, h1, h2, _⟩ | ⟨f, _, _, _, _, h1, h2, _⟩
 ·exact h.2.2.1
 ·exact .inr ⟨h1, by rw [h2]; rfl⟩
 ·exact .inl ⟨h1, by rw [h2]; rfl⟩
theorem FCtx.same (C : FCtx P idf call ops ml tS MS vS φ₀ fl) : ∀ n, n ≤ ops.size → MStep (MS 0) (MS n) ∧ ∀ i, i ≤ n → (MS i).size ≤ (MS n).size ∧ ∀ b, b < (MS i).size → (MS n).get b = (MS i).get b := by
 intro n hn
 have := MS_same C.CS C.b0 C.tr (fun i m hm h0 => by rcases C.q i m hm with h | h <;> first | exact h.2 | omega) (fun i m hm => by rcases C.q i m hm with ⟨h, _⟩ | ⟨h, _⟩ <;> omega) n (by rw [C.len]; exact hn)
 refine ⟨this.1, fun i hi => ⟨(this.2 i hi).1, fun b hb => ?_⟩⟩
 rcases (this.2 i hi).2 (fun j m _ _ hm hq => by rcases C.q j m hm with ⟨h, _⟩ | ⟨h, _⟩ <;> omega) b hb with h | ⟨_, j, m, _, _, hm, hq, _⟩
 ·exact h
 ·rcases C.q j m hm with ⟨h, _⟩ | ⟨h, _⟩ <;> omega
theorem FCtx.env (C : FCtx P idf call ops ml tS MS vS φ₀ fl) (k n : Nat) (hn : n ≤ ops.size) : (tS n).length = (tS 0).length ∧
   ((∃ (j : Nat) (o : Oper), j < n ∧ ops[j]? = some o ∧ o.dst = some k ∧ (k < (tS 0).length → (tS n)[k]? = some (vS j))) ∨ ((∀ (j : Nat) (o : Oper), j < n → ops[j]? = some o → o.dst ≠ some k) ∧ (tS n)[k]? = (tS 0)[k]?)) := tS_get C.O C.dst C.len (fun i m hm => (C.tr i m hm).2) k n hn
theorem FCtx.slot (C : FCtx P idf call ops ml tS MS vS φ₀ fl) {listed : Array Bool} {a : Act} {w : World} {φ : Loc} (R : FInv P idf ops ml tS MS vS φ₀ w₀ ds fl listed a w φ) {i : Nat} {o : Oper} (ho : ops[i]? = some o) (hnl : ¬ Listed listed i)
  (hready : ∀ e ∈ o.after.toList, Region.binds .any e = true → Listed listed e.on) {k : Nat} (hk : ∀ (j : Nat) (p : Oper), ops[j]? = some p → p.dst = some k → hasEdge o j = true ∨ hasEdge p i = true) :
  GRel (φ.upto (MS i).size) (tS i)[k]? a.tmps[k]? := by
 have hi : i < ops.size := (Array.getElem?_eq_some_iff.1 ho).1
 obtain ⟨hlen, henv⟩ := C.env k i (by omega)
 by_cases hkl : k < a.tmps.size
 ·rcases henv with ⟨j, p, hj, hp, hd, hv⟩ | ⟨hno, hv⟩
  ·have hlj : Listed listed j := by
    rcases hk j p hp hd with h | h
    ·obtain ⟨e, he, hb, rfl⟩ := hasEdge_spec h; exact hready e he hb
    ·obtain ⟨e, he, hb, rfl⟩ := hasEdge_spec h; have := C.O.back _ _ hp e he hb; omega
   obtain ⟨y, hy, hr⟩ := R.done j p k hp hd hlj hkl
   rw [hv (by rw [← R.tsize]; exact hkl), hy]
   refine .some (hr.mono (Loc.upto_le ?_ (fun _ _ h => h)))
   exact ((C.same i (by omega)).2 (j + 1) (by omega)).1
  ·rw [hv]
   have := R.todo k hkl (fun j p hp hd hlj => by
    rcases hk j p hp hd with h | h
    ·obtain ⟨e, he, hb, rfl⟩ := hasEdge_spec h
     have := C.O.back _ _ ho e he hb
     exact hno _ _ this hp hd
    ·obtain ⟨e, he, hb, rfl⟩ := hasEdge_spec h
     exact hnl (R.closed _ _ hp hlj e he hb))
   refine this.mono fun b x hb => Loc.upto_of (R.stp.ext _ _ hb) ?_
   have := C.φ b x hb
   have := ((C.same i (by omega)).2 0 (by omega)).1
   omega
 ·have h1 : a.tmps[k]? = none := by simp; omega
  have h2 : (tS i)[k]? = none := by
   have := R.tsize
   simp; omega
  rw [h1, h2]; exact .none
theorem listed_lt {ops : Array Oper} {listed : Array Bool} (hs : listed.size = ops.size) {j : Nat} (hj : Listed listed j) : j < ops.size := by
 unfold Listed at hj
 by_cases h : j < listed.size
 ·omega
 ·simp [Array.getD, h] at hj
theorem FCtx.dom_lt (C : FCtx P idf call ops ml tS MS vS φ₀ fl) {listed : Array Bool} {a : Act} {w : World} {φ : Loc} (R : FInv P idf ops ml tS MS vS φ₀ w₀ ds fl listed a w φ) : ∀ b x, φ b = some x → b < (MS ops.size).size := by
 intro b x hb
 cases h0 : φ₀ b with
 | some y =>
  have := C.φ b y h0
  have := ((C.same ops.size (Nat.le_refl _)).2 0 (by omega)).1
  omega
 | none =>
  obtain ⟨j, hj, h1, h2⟩ := R.dom b x hb h0
  have hjs := listed_lt R.size hj
  have := ((C.same ops.size (Nat.le_refl _)).2 (j + 1) (by omega)).1
  omega
theorem g_store' {w : World} {ty t : TypeId} {n : Nat} (hn : szOf P ty = some n) {c : Nat} {c' : Array Value} {x' : Value} (hg : w.heap[c]? = some (.cells c' t (0, 0))) (hl : n ≤ c'.size) (hs : x'.cells.size = n) (ho : ∀ v ∈ x'.cells.toList, v.oneCell' = true) :
  ∃ w', (Instr.storeAt ty (.pointer (some ⟨c, 0, none⟩)) x').run P w = .ok () w' ∧ w'.heap[c]? = some (.cells (splice c'.toList 0 x'.cells.toList).toArray t (0, 0)) ∧ (∀ k, k ≠ c → w'.heap[k]? = w.heap[k]?) ∧ w'.heap.size = w.heap.size ∧ w'.os = w.os ∧ w'.tape = w.tape ∧ w'.output = w.output := by
 have hst := run_storeCells_at P c 0 t x'.cells.toList 0 c' w hg (by simp; omega) ho
 refine ⟨w.setRow c (List.take (0 + 0) c'.toList ++ x'.cells.toList ++ List.drop (0 + 0 + x'.cells.toList.length) c'.toList).toArray, ?_, ?_, fun k hk => setRow_other w c k _ hk, by simp, rfl, rfl, rfl⟩
 ·simp [Instr.storeAt, Instr.sureAddr, storeVar, run_sz hn w, hs]
  simpa [hs] using hst
 ·refine (setRow_heap w c c' _ t _ hg).trans ?_
  simp [splice]
theorem plain_store {op : Op} {n : Nat} {a x : Operand} (hc : compPlain P op = some (.store n a x)) : ∃ t, op = .store t a x ∧ szOf P t = some n := by
 unfold compPlain at hc
 split at hc
 case h_9 ty a' x' =>
  obtain ⟨m, hm, he⟩ := map_some hc
  cases he
  exact ⟨ty, rfl, hm⟩
 all_goals exfalso
 all_goals (repeat' split at hc)
 all_goals simp [Option.bind_eq_some_iff] at hc
theorem MS_new (C : FCtx P idf call ops ml tS MS vS φ₀ fl) {f : Flux} (hf : f ∈ fl) : vS f.jb = .pointer (some ⟨(MS f.jb).size, 0, none⟩) ∧ (MS (f.jb + 1)).size = (MS f.jb).size + 1 ∧ (MS (f.jb + 1)).get (MS f.jb).size = some .dead ∧ f.jb + 1 ≤ ops.size := by
 obtain ⟨h1, h2, _⟩ := C.f f hf
 have hi : f.jb < ops.size := by omega
 obtain ⟨m, m0, hm, hc0, hd0, hcase⟩ := C.m f.jb ops[f.jb] (by simp [hi])
 rcases hcase with ⟨_, _, _, hno⟩ | ⟨g, hg, z, hgj, hmg, _, hq, hmop, _⟩ | ⟨g, hg, hgj, _, _, _, _, _, _, hno⟩
 ·exact absurd rfl (hno f hf).1
 ·obtain ⟨htr, _⟩ := C.tr f.jb m hm
  unfold stepQ at htr
  rw [if_pos (.inl hq)] at htr
  unfold stepVal at htr
  rw [hmg, hmop] at htr
  simp only [guardOk, if_true, opSem, Option.map_some, Option.some.injEq, Prod.mk.injEq] at htr
  obtain ⟨e1, e2⟩ := htr
  refine ⟨e1.symm, by rw [← e2]; rfl, ?_, by omega⟩
  rw [← e2]
  show ((MS f.jb).freeze.push .dead).get (MS f.jb).size = _
  rw [Mem.get_push]; exact if_pos rfl
 ·exact absurd rfl (hno f hf)
theorem dead_at (C : FCtx P idf call ops ml tS MS vS φ₀ fl) {f : Flux} (hf : f ∈ fl) {j : Nat} (hj : j ≤ ops.size) (hb : (MS f.jb).size < (MS j).size) : (MS j).get (MS f.jb).size = some .dead := by
 obtain ⟨_, h2, h3, h4⟩ := MS_new C hf
 have hlt : f.jb + 1 ≤ j := by
  rcases Nat.lt_or_ge f.jb j with h | h
  ·exact h
  ·have := ((C.same f.jb (by omega)).2 j h).1; omega
 rw [((C.same j hj).2 (f.jb + 1) hlt).2 _ (by omega)]
 exact h3
theorem apart_at (C : FCtx P idf call ops ml tS MS vS φ₀ fl) {f g : Flux} (hf : f ∈ fl) (hg : g ∈ fl) (h : (MS f.jb).size = (MS g.jb).size) : f = g := by
 obtain ⟨_, f2, _, f4⟩ := MS_new C hf
 obtain ⟨_, g2, _, g4⟩ := MS_new C hg
 rcases Nat.lt_trichotomy f.jb g.jb with h1 | h1 | h1
 ·have := ((C.same g.jb (by omega)).2 (f.jb + 1) h1).1; omega
 ·exact C.uj f hf g hg h1
 ·have := ((C.same f.jb (by omega)).2 (g.jb + 1) h1).1; omega
set_option maxHeartbeats 1000000 in
theorem FCtx.step (C : FCtx P idf call ops ml tS MS vS φ₀ fl) {listed : Array Bool} {a : Act} {w : World} {φ : Loc} (R : FInv P idf ops ml tS MS vS φ₀ w₀ ds fl listed a w φ) {i : Nat} {o : Oper} (ho : ops[i]? = some o) (hnl : ¬ Listed listed i)
  (hready : ∀ e ∈ o.after.toList, Region.binds .any e = true → Listed listed e.on) {r : Option Nat} {Q : Exit → Act → World → Prop} {Kt : Act → World → Prop}
  (hK : ∀ φ' a' w', FInv P idf ops ml tS MS vS φ₀ w₀ ds fl (listed.setIfInBounds i true) a' w' φ' → Kt a' w') : wpOpIn (fenceAt r) 0 P ops Q i Kt a w := by
 have hi : i < ops.size := (Array.getElem?_eq_some_iff.1 ho).1
 have hil : i < listed.size := by rw [R.size]; exact hi
 obtain ⟨m, m0, hm, hc0, hd0, hcase⟩ := C.m i o ho
 have hdst : m.dst = o.dst := hd0.trans (compOper_op hc0).2
 have hls := fun j => listed_set hil j
 obtain ⟨htr, htn⟩ := C.tr i m hm
 have hbase : ∀ n, n ≤ ops.size → (MS n).base ≤ (MS n).size := fun n hn => (C.same n hn).1.ok C.b0
 have hv : ∀ x ∈ o.op.operands.toList, VRel (φ.upto (MS i).size) (ev (tS i) x) (a.eval x) := by
  intro x hx
  have hokx : okO x = true := by
   have := (compOp_ok (compOper_op hc0).1).1
   exact List.all_eq_true.1 this x hx
  cases x with
  | tmp k => exact getD_rel (C.slot R ho hnl hready (C.O.tmp i o k ho hx))
  | const v => exact VRel.okC hokx
  | global g => cases hokx
  | func f => exact .func f #[] #[] #[] #[] rfl rfl (fun i x y h => by simp at h) (fun i x y h => by simp at h)
 have hg : ∀ k b, m0.guard = some (k, b) → GRel (φ.upto (MS i).size) (tS i)[k]? a.tmps[k]? := by
  intro k b hgk
  have hcc := hc0
  unfold compOper at hcc
  simp only [Option.bind_eq_some_iff] at hcc
  obtain ⟨op, _, hcc⟩ := hcc
  split at hcc
  ·cases hcc; cases hgk
  ·rename_i j b' hgo
   obtain ⟨tmp, htmp, rfl⟩ := map_some hcc
   cases hgk
   have hedge := C.O.guard i o _ _ ho hgo
   refine C.slot R ho hnl hready fun j' p hp hd => ?_
   simp only [Option.bind_eq_some_iff] at htmp
   obtain ⟨pj, hpj, hdj⟩ := htmp
   have := C.O.dst _ _ _ _ _ hp hpj hd hdj
   subst this
   exact .inl hedge
 have newTmps : ∀ (φ' : Loc) (v' : Value), (∀ b x, φ b = some x → φ' b = some x) → VRel (φ'.upto (MS (i + 1)).size) (vS i) v' →
   ((a.put o.dst v').tmps.size = (tS 0).length) ∧
   (∀ (j : Nat) (p : Oper) (d : Tmp), ops[j]? = some p → p.dst = some d → Listed (listed.setIfInBounds i true) j → d < (a.put o.dst v').tmps.size → ∃ y, (a.put o.dst v').tmps[d]? = some y ∧ VRel (φ'.upto (MS (j + 1)).size) (vS j) y) ∧
   (∀ (d : Nat), d < (a.put o.dst v').tmps.size → (∀ (j : Nat) (p : Oper), ops[j]? = some p → p.dst = some d → ¬ Listed (listed.setIfInBounds i true) j) → GRel φ₀ (tS 0)[d]? (a.put o.dst v').tmps[d]?) ∧ (a.put o.dst v').defers = ds := by
  intro φ' v' hext hvr
  refine ⟨by rw [put_size]; exact R.tsize, fun j p d hp hd hlj hds => ?_, fun d hds hno => ?_, by rw [← R.ds]; cases o.dst <;> rfl⟩
  ·rw [put_size] at hds
   rcases (hls j).1 hlj with rfl | hlj'
   ·rw [ho] at hp; cases hp
    exact ⟨v', by rw [put_get, if_pos ⟨hd, hds⟩], hvr⟩
   ·have hne : j ≠ i := fun e => hnl (e ▸ hlj')
    obtain ⟨y, h1, h2⟩ := R.done j p d hp hd hlj' hds
    refine ⟨y, ?_, h2.mono (Loc.upto_le (Nat.le_refl _) hext)⟩
    rw [put_get, if_neg]
    ·exact h1
    ·rintro ⟨h, _⟩
     exact hne (C.O.dst _ _ _ _ _ hp ho hd h)
  ·rw [put_size] at hds
   rw [put_get, if_neg]
   ·exact R.todo d hds fun j p hp hd hlj => hno j p hp hd ((hls j).2 (.inr hlj))
   ·rintro ⟨h, _⟩
    exact hno i o ho h ((hls i).2 (.inl rfl))
 have newClosed : Closed ops (Listed (listed.setIfInBounds i true)) := by
  intro j p hp hlj e he hb
  rcases (hls j).1 hlj with rfl | hlj
  ·rw [ho] at hp; cases hp
   exact (hls _).2 (.inr (hready e he hb))
  ·exact (hls _).2 (.inr (R.closed j p hp hlj e he hb))
 have newSize : (listed.setIfInBounds i true).size = ops.size := by simpa using R.size
 have hrepN := R.rep ops.size (Nat.le_refl _)
 rw [Loc.upto_eq (C.dom_lt R)] at hrepN
 have oldc : ∀ b c K, φ b = some (c, K) → c < w.heap.size := fun b c K hb => (hrepN.lt hb).2
 have fluxOne : ∀ f ∈ fl, f.jb ≠ i → f.js ≠ i → ∀ (ψ : Loc) (w' : World), (∀ b x, φ b = some x → ψ b = some x) → (∀ c, c < w.heap.size → w'.heap[c]? = w.heap[c]?) → (∀ b c K, ψ b = some (c, K) → φ b = some (c, K) ∨ w.heap.size ≤ c) →
   Listed (listed.setIfInBounds i true) f.jb → ∃ c K c', ψ (MS f.jb).size = some (c, K) ∧ w'.heap[c]? = some (.cells c' f.ty (0, 0)) ∧ f.n ≤ c'.size ∧ K * P.cellsOf f.ty ≤ c'.size ∧ w₀.heap.size ≤ c ∧ (∀ b K', ψ b = some (c, K') → b = (MS f.jb).size) ∧
   (Listed (listed.setIfInBounds i true) f.js → ∃ y, VRel ψ (ev (tS f.js) f.x) y ∧ c'.toList.take f.n = y.cells.toList) := by
  intro f hf hjb hjs ψ w' hext hheap hsp hl
  obtain ⟨c, K, c', h1, h2, h3, h4, h5, h6, h7⟩ := R.flux f hf (((hls _).1 hl).resolve_left hjb)
  have hcl := oldc _ _ _ h1
  refine ⟨c, K, c', hext _ _ h1, (hheap c hcl).trans h2, h3, h4, h5, fun b K' hb => ?_, fun hl' => ?_⟩
  ·rcases hsp b c K' hb with h | h
   ·exact h6 b K' h
   ·omega
  ·obtain ⟨y, y1, y2⟩ := h7 (((hls _).1 hl').resolve_left hjs)
   exact ⟨y, y1.mono hext, y2⟩
 have quiet : ∀ (M2 : Mem), M2.size = (MS (i + 1)).size → (∀ b, b < (MS (i + 1)).size → (MS (i + 1)).get b = M2.get b ∨ (MS (i + 1)).get b = some .dead) →
   ∀ (φ₁ : Loc) (v' : Value) (w' : World), VRel φ₁ (vS i) v' → Rep P idf φ₁ M2 w' → Stp (φ.upto (MS i).size) (MS i).freeze w φ₁ M2 w' →
   (∀ f ∈ fl, f.js ≠ i) → (∀ f ∈ fl, f.jb = i → (∀ b x, φ₁ b = some x → φ.upto (MS i).size b = none → b = (MS i).size) ∧ ∃ c K c', φ₁ (MS i).size = some (c, K) ∧ w'.heap[c]? = some (.cells c' f.ty (0, 0)) ∧ f.n ≤ c'.size ∧ K * P.cellsOf f.ty ≤ c'.size) → Kt (a.put o.dst v') w' := by
  intro M2 hs1 hM2 φ₁ v' w' h1 h2 h3 hnjs hfl
  have hsz : (MS i).size ≤ (MS (i + 1)).size := ((C.same (i + 1) (by omega)).2 i (by omega)).1
  have hfree : ∀ b, (MS i).size ≤ b → b < (MS (i + 1)).size → φ b = none := by
   intro b hb1 hb2
   cases hb : φ b with
   | none => rfl
   | some x =>
    exfalso
    cases h0 : φ₀ b with
    | some y => have := C.φ b y h0; have := ((C.same i (by omega)).2 0 (by omega)).1; omega
    | none =>
     obtain ⟨j, hj, g1, g2⟩ := R.dom b x hb h0
     have hjs := listed_lt R.size hj
     have hne : j ≠ i := fun e => hnl (e ▸ hj)
     rcases Nat.lt_or_gt_of_ne hne with h | h
     ·have := ((C.same i (by omega)).2 (j + 1) (by omega)).1; omega
     ·have := ((C.same j (by omega)).2 (i + 1) (by omega)).1; omega
  have hd1 : ∀ b x, φ₁ b = some x → b < (MS (i + 1)).size := by
   intro b x hb
   cases h0 : φ.upto (MS i).size b with
   | some y =>
    have : b < (MS i).size := Loc.upto_lt h0
    omega
   | none => have := (h3.new b x hb h0).2; omega
  have hd2 : ∀ b x, φ₁ b = some x → (MS i).size ≤ b → φ.upto (MS i).size b = none := by
   intro b x hb hle; unfold Loc.upto; rw [if_neg (by omega)]
  obtain ⟨ψ, hψ⟩ : ∃ ψ : Loc, ψ = fun b => if (MS i).size ≤ b ∧ b < (MS (i + 1)).size then φ₁ b else φ b := ⟨_, rfl⟩
  have hext : ∀ b x, φ b = some x → ψ b = some x := by
   intro b x hb
   rw [hψ]; simp only
   split
   ·rename_i hc; rw [hfree b hc.1 hc.2] at hb; cases hb
   ·exact hb
  have hext1 : ∀ b x, φ₁ b = some x → ψ b = some x := by
   intro b x hb
   have hlt := hd1 b x hb
   rw [hψ]; simp only
   split
   ·exact hb
   ·rename_i hc
    cases h0 : φ.upto (MS i).size b with
    | some y =>
     have := h3.ext _ _ h0
     rw [hb] at this; cases this
     exact Loc.upto_sub _ _ h0
    | none => have := (h3.new b x hb h0).1; simp at this; omega
  have hsplit : ∀ b x, ψ b = some x → (φ b = some x) ∨ ((MS i).size ≤ b ∧ b < (MS (i + 1)).size ∧ φ₁ b = some x) := by
   intro b x hb
   rw [hψ] at hb; simp only at hb
   split at hb
   ·rename_i hc; exact .inr ⟨hc.1, hc.2, hb⟩
   ·exact .inl hb
  have hheap : ∀ c, c < w.heap.size → w'.heap[c]? = w.heap[c]? := fun c hc => h3.frame c hc fun b K' hb => by
   unfold Loc.upto at hb
   split at hb
   ·simpa using (by assumption)
   ·cases hb
  have newc : ∀ b c K', (MS i).size ≤ b → φ₁ b = some (c, K') → w.heap.size ≤ c := by
   intro b c K' hb1 hb
   rcases h3.fresh b c K' hb (hd2 b _ hb hb1) with h | ⟨b0, K0, h, hl⟩
   ·exact h
   ·exfalso
    unfold Loc.upto at h
    split at h
    ·simp at hl; omega
    ·cases h
  have hvr : VRel (ψ.upto (MS (i + 1)).size) (vS i) v' := h1.mono fun b x hb => Loc.upto_of (hext1 b x hb) (hd1 b x hb)
  obtain ⟨n1, n2, n3, n4⟩ := newTmps ψ v' hext hvr
  have hsp : ∀ b c K, ψ b = some (c, K) → φ b = some (c, K) ∨ w.heap.size ≤ c := fun b c K hb => by
   rcases hsplit b _ hb with h | ⟨g1, g2, g3⟩
   ·exact .inl h
   ·exact .inr (newc b c K g1 g3)
  refine hK ψ (a.put o.dst v') w' {
   size := newSize, closed := newClosed
   rep := fun j hj => ?_
   stp := ?_
   dom := fun b x hb h0 => by
    rcases hsplit b x hb with h | ⟨g1, g2, _⟩
    ·obtain ⟨j, h1, h2⟩ := R.dom b x h h0
     exact ⟨j, (hls j).2 (.inr h1), h2⟩
    ·exact ⟨i, (hls i).2 (.inl rfl), g1, g2⟩
   tsize := n1, done := n2, todo := n3, ds := n4
   flux := fun f hf hl => ?_ }
  ·have hold := (R.rep j hj).keep hheap
   by_cases hji : j ≤ i
   ·have e : ψ.upto (MS j).size = φ.upto (MS j).size := by
     funext b
     unfold Loc.upto
     split
     ·rename_i hb
      have := ((C.same i (by omega)).2 j hji).1
      rw [hψ]; simp only
      rw [if_neg (by omega)]
     ·rfl
    rw [e]; exact hold
   ·have hle1 : (MS (i + 1)).size ≤ (MS j).size := ((C.same j (by omega)).2 (i + 1) (by omega)).1
    have hget : ∀ b, b < (MS (i + 1)).size → (MS j).get b = M2.get b ∨ (MS j).get b = some .dead := fun b hb => by
     rw [((C.same j (by omega)).2 (i + 1) (by omega)).2 b hb]; exact hM2 b hb
    refine ⟨hbase j (by omega), fun b c K₁ hb => ?_, fun b₁ b₂ c K₁ K₂ e1 e2 l1 l2 => ?_⟩
    ·have hbj : b < (MS j).size := Loc.upto_lt hb
     rcases hsplit b _ (Loc.upto_sub _ _ hb) with h | ⟨g1, g2, g3⟩
     ·obtain ⟨o1, o2, k1, k2, k3⟩ := hold.obj b c K₁ (Loc.upto_of h hbj)
      exact ⟨o1, o2, k1, k2, k3.mono (Loc.upto_le (Nat.le_refl _) hext)⟩
     ·obtain ⟨o1, o2, k1, k2, k3⟩ := h2.obj b c K₁ g3
      rcases hget b g2 with e | e
      ·exact ⟨o1, o2, by rw [e]; exact k1, k2, k3.mono fun b x hb => Loc.upto_of (hext1 b x hb) (by have := hd1 b x hb; omega)⟩
      ·exact ⟨.dead, o2, e, k2, .dead _⟩
    ·have lt : ∀ b x, ψ.upto (MS j).size b = some x → b < (MS j).size := fun b x hb => Loc.upto_lt hb
     have oldc' : ∀ b c K', φ b = some (c, K') → b < (MS j).size → c < w.heap.size := fun b c K' hb hbj => oldc b c K' hb
     rcases hsplit b₁ _ (Loc.upto_sub _ _ e1) with h | ⟨g1, g2, g3⟩
     ·rcases hsplit b₂ _ (Loc.upto_sub _ _ e2) with h' | ⟨g1', g2', g3'⟩
      ·exact hold.inj b₁ b₂ c K₁ K₂ (Loc.upto_of h (lt _ _ e1)) (Loc.upto_of h' (lt _ _ e2)) l1 l2
      ·have := oldc' _ _ _ h (lt _ _ e1); have := newc _ _ _ g1' g3'; omega
     ·rcases hsplit b₂ _ (Loc.upto_sub _ _ e2) with h' | ⟨g1', g2', g3'⟩
      ·have := oldc' _ _ _ h' (lt _ _ e2); have := newc _ _ _ g1 g3; omega
      ·refine h2.inj b₁ b₂ c K₁ K₂ g3 g3' ?_ ?_
       ·rw [(hget b₁ g2).resolve_right l1] at l1; exact l1
       ·rw [(hget b₂ g2').resolve_right l2] at l2; exact l2
  ·have hs := R.stp
   refine ⟨fun b x hb => hext _ _ (hs.ext b x hb), fun b x hb h0 => ?_, fun b c K' hb h0 => ?_, hs.base, hs.size, hs.ro, fun c hc hall => (hheap c (Nat.lt_of_lt_of_le hc hs.hsize)).trans (hs.frame c hc hall), Nat.le_trans hs.hsize h3.hsize, h3.os.trans hs.os, h3.tape.trans hs.tape, h3.output.trans hs.output⟩
   ·rcases hsplit b x hb with h | ⟨g1, g2, _⟩
    ·exact hs.new b x h h0
    ·have := ((C.same i (by omega)).2 0 (by omega)).1
     have := ((C.same ops.size (Nat.le_refl _)).2 (i + 1) (by omega)).1
     omega
   ·rcases hsplit b _ hb with h | ⟨g1, g2, g3⟩
    ·exact hs.fresh b c K' h h0
    ·exact .inl (Nat.le_trans hs.hsize (newc b c K' g1 g3))
  ·by_cases hfi : f.jb = i
   ·obtain ⟨hone, c, K, c', k1, k2, k3, k4⟩ := hfl f hf hfi
    have hsz1 := (MS_new C hf).2.1
    rw [hfi] at hsz1
    have hwc := newc _ _ _ (Nat.le_refl _) k1
    rw [hfi]
    refine ⟨c, K, c', hext1 _ _ k1, k2, k3, k4, Nat.le_trans R.stp.hsize hwc, fun b K' hb => ?_, fun hl' => ?_⟩
    ·rcases hsplit b _ hb with h | ⟨g1, g2, g3⟩
     ·have := oldc _ _ _ h; omega
     ·omega
    ·exfalso
     have hlj := ((hls _).1 hl').resolve_left (hnjs f hf)
     obtain ⟨_, _, _, os, hos, hed⟩ := C.f f hf
     obtain ⟨e, he, hb, hon⟩ := hasEdge_spec hed
     have := R.closed _ _ hos hlj e he hb
     rw [hon, hfi] at this
     exact hnl this
   ·exact fluxOne f hf hfi (hnjs f hf) ψ w' hext hheap hsp hl
 rcases hcase with ⟨hg0, ho0, hq, hno⟩ | ⟨f, hf, z, hfj, hmg, hm0g, hq, hmop, hm0op, hzn, hzt, hfd, hnjs⟩ | ⟨f, hf, hfj, hmg, hm0g, hq, hmop, hm0op, hfd, hnjb⟩
 ·rcases hq with ⟨hq, hp⟩ | ⟨hq, hp⟩
  ·-- it does not look at memory
   obtain ⟨hMS, hany⟩ := stepQ_pure hq hp htr
   have hdead := (hrepN.dead (ψ := φ.upto (MS i).size) (fun b x h => Loc.upto_sub b x h)).freeze
   have hst := hany (deadMem (MS ops.size).size).freeze
   rw [stepVal_congr hg0 ho0] at hst
   refine step_sound C.CO C.ID ho hc0 hdead hv hg hst fun φ' v' w' h1 h2 h3 => hK φ (a.put o.dst v') w' ?_
   have hsame : ∀ b x, φ' b = some x → φ.upto (MS i).size b = some x := by
    intro b x hb
    cases h0 : φ.upto (MS i).size b with
    | some y => have := h3.ext _ _ h0; rw [hb] at this; exact this.symm ▸ rfl
    | none => have := h3.new b x hb h0; omega
   have hvr : VRel (φ.upto (MS (i + 1)).size) (vS i) v' := by rw [hMS]; exact h1.mono hsame
   obtain ⟨n1, n2, n3, n4⟩ := newTmps φ v' (fun _ _ h => h) hvr
   have hheap : ∀ c, c < w.heap.size → w'.heap[c]? = w.heap[c]? := fun c hc => h3.frame c hc fun b K' hb => by
    have := C.dom_lt R b _ (Loc.upto_sub _ _ hb)
    simpa [deadMem_size] using this
   exact {
    size := newSize, closed := newClosed
    rep := fun j h1 => (R.rep j h1).keep hheap
    stp := R.stp.keep hheap h3.hsize h3.os h3.tape h3.output
    dom := fun b x hb h0 => by
     obtain ⟨j, h1, h2⟩ := R.dom b x hb h0
     exact ⟨j, (hls j).2 (.inr h1), h2⟩
    tsize := n1, done := n2, todo := n3, ds := n4
    flux := fun f hf hl => fluxOne f hf (hno f hf).1 (hno f hf).2 φ w' (fun _ _ h => h) hheap (fun _ _ _ h => .inl h) hl }
  ·obtain ⟨hkeep, M2, hst, hM2⟩ := stepQ_quiet C.CS (.inl hq) htr
   have hrep := (R.rep i (by omega)).freeze
   rw [stepVal_congr hg0 ho0] at hst
   refine step_sound C.CO C.ID ho hc0 hrep hv hg hst fun φ₁ v' w' h1 h2 h3 => quiet M2 (by rw [hM2]; simp) (fun b _ => .inl (by rw [hM2]; rfl)) φ₁ v' w' h1 h2 h3 (fun f hf => (hno f hf).2) fun f hf hfi => absurd hfi (hno f hf).1
 ·-- a box is made
  have hnew := MS_new C hf
  rw [hfj] at hnew
  have hrep := (R.rep i (by omega)).freeze
  have hst : stepVal call m0 (tS i) (MS i).freeze = some (.pointer (some ⟨(MS i).size, 0, none⟩), (MS i).freeze.push (.cells z.cells.toList f.ty true)) := by
   unfold stepVal
   rw [hm0g, hm0op]
   simp only [guardOk, if_true, opSem, ev, hzt, allocV]
   rfl
  refine step_sound C.CO C.ID ho hc0 hrep hv hg hst fun φ₁ v' w' h1 h2 h3 => quiet _ (by rw [hnew.2.1]; rfl) (fun b hb => ?_) φ₁ v' w' (by rw [hnew.1]; exact h1) h2 h3 hnjs fun g hg' hgi => ?_
  ·by_cases hbe : b = (MS i).size
   ·subst hbe; exact .inr hnew.2.2.1
   ·left
    have : b < (MS i).size := by omega
    rw [((C.same (i + 1) (by omega)).2 i (by omega)).2 b this]
    rw [Mem.get_push, if_neg (by show ¬ b = (MS i).size; exact hbe)]; rfl
  ·obtain rfl : f = g := C.uj f hf g hg' (hfj.trans hgi.symm)
   refine ⟨fun b x hb h0 => ?_, ?_⟩
   ·have := h3.new b x hb h0
    have e1 : ((MS i).freeze).size = (MS i).size := rfl
    have e2 : ((MS i).freeze.push (.cells z.cells.toList f.ty true)).size = (MS i).size + 1 := rfl
    omega
   ·cases h1 with
    | ptr _ _ c K hb =>
     obtain ⟨o1, o2, k1, k2, k3⟩ := h2.obj _ c K hb
     have e : ((MS i).freeze.push (.cells z.cells.toList f.ty true)).get (MS i).size = some (.cells z.cells.toList f.ty true) := by rw [Mem.get_push]; exact if_pos rfl
     rw [e] at k1
     cases k1
     cases k3 with
     | cells _ _ _ c' fr hl hr hoo hw hKK =>
      obtain rfl := hw rfl
      exact ⟨c, K, c', hb, k2, by rw [← hzn]; simpa using hl, hKK⟩
 ·-- it is filled
  subst hfj
  obtain ⟨hlt, _, _, os, hos, hed⟩ := C.f f hf
  rw [ho] at hos
  cases hos
  have hljb : Listed listed f.jb := by
   obtain ⟨e, he, hb, hon⟩ := hasEdge_spec hed
   rw [← hon]; exact hready e he hb
  obtain ⟨c, K, c', k1, k2, k3, k4, k5, k6, k7⟩ := R.flux f hf hljb
  obtain ⟨hnew, _, _, _⟩ := MS_new C hf
  obtain ⟨hok, hcase⟩ := compOp_ok (compOper_op hc0).1
  rcases hcase with ⟨g, args, tys, hop, hmm⟩ | hplain
  ·exfalso
   rw [hm0op] at hmm
   rcases compCall_info (P := P) (idf := idf) (f := g) (as := args.toList) with h | ⟨_, _, _, _, _, h⟩ <;> rw [h] at hmm <;> first | (cases hmm; done) | (unfold identOp at hmm; split at hmm <;> cases hmm)
  rw [hm0op] at hplain
  obtain ⟨ty, hop, hsz⟩ := plain_store hplain
  have hpx : VRel (φ.upto (MS f.js).size) (ev (tS f.js) f.x) (a.eval f.x) := hv f.x (by rw [hop]; simp [Op.operands])
  have hpp : VRel (φ.upto (MS f.js).size) (ev (tS f.js) (.tmp f.p)) (a.eval (.tmp f.p)) := hv _ (by rw [hop]; simp [Op.operands])
  have hjbo : f.jb < ops.size := by omega
  obtain ⟨mb, mb0, hmb, hcb0, hdb0, hcaseb⟩ := C.m f.jb ops[f.jb] (by simp [hjbo])
  have hdb : mb.dst = some f.p := by
   rcases hcaseb with ⟨_, _, _, hno⟩ | ⟨g, hg', z, hgj, _, _, _, _, _, _, _, hfd', _⟩ | ⟨g, hg', hgj, _, _, _, _, _, _, hno⟩
   ·exact absurd rfl (hno f hf).1
   ·obtain rfl := C.uj f hf g hg' hgj.symm
    exact hdb0.trans hfd'
   ·exact absurd rfl (hno f hf)
  have hpv : a.eval (.tmp f.p) = .pointer (some ⟨c, 0, none⟩) := by
   have hodst : (ops[f.jb]).dst = some f.p := by rw [← hdb, hdb0]; exact (compOper_op hcb0).2.symm
   have hin : f.p < a.tmps.size := by rw [R.tsize]; exact (C.late f hf).2.2
   obtain ⟨y, y1, y2⟩ := R.done f.jb ops[f.jb] f.p (by simp [hjbo]) hodst hljb hin
   rw [hnew] at y2
   have : a.eval (.tmp f.p) = y := by simp [Act.eval, y1]
   rw [this]
   cases y2 with
   | ptr _ _ c2 K2 hb =>
    have := Loc.upto_sub _ _ hb
    rw [k1] at this; cases this
    rfl
  obtain ⟨hs, hnt, _⟩ := C.late f hf
  have hsz' : (a.eval f.x).cells.size = f.n := by have := hpx.cells.length; simp at this; omega
  obtain ⟨w', r1, r2, r3, r4, r5, r6, r7⟩ := g_store' (P := P) hsz k2 k3 hsz' (hpx.cells.oneCell (hpx.cells_one hnt))
  have hwant := guard_rel (t := tS f.js) hc0 hg (by rw [hm0g]; rfl)
  unfold wpOpIn
  simp only [ho, hwant, hm0g, guardOk, if_true]
  refine ⟨fun f _ => fenceAt_fn r f, ?_⟩
  have hsem : o.semAt (fenceAt r).round a.eval = execOp a.eval o := Oper.semAt_eq _ _ _ (by rw [hop]; intro c hcc; cases hcc)
  rw [hsem]
  have hrun : (execOp a.eval o).run P w = .ok .skip w' := by
   unfold execOp
   rw [hop]
   simp only [hpv]
   simp [r1]
  rw [hrun, Oper.uponIn_skip]
  have hod : o.dst = none := (compOper_op hc0).2.symm.trans hfd
  have hput : ∀ v, a.put o.dst v = a := fun v => by rw [hod]; rfl
  have hvi : vS f.js = .bool true := by
   unfold stepQ at htr
   rw [if_neg (by omega)] at htr
   unfold stepVal at htr
   rw [hmg, hmop] at htr
   simp only [guardOk, if_true, opSem, ev, Option.some.injEq, Prod.mk.injEq] at htr
   exact htr.1.symm
  obtain ⟨n1, n2, n3, n4⟩ := newTmps φ (.bool true) (fun _ _ h => h) (by rw [hvi]; exact .bool _)
  rw [hput] at n1 n2 n3 n4
  have hsp : (splice c'.toList 0 (a.eval f.x).cells.toList).length = c'.size := by
   unfold splice
   simp only [List.take_zero, List.nil_append, Nat.zero_add, List.length_append, List.length_drop, Array.length_toList]
   omega
  have hst := R.stp
  have hK' := hK φ a w' {
   size := newSize, closed := newClosed
   rep := fun j hj => by
    have hold := R.rep j hj
    refine ⟨hbase j hj, fun b c1 K1 hb => ?_, hold.inj⟩
    obtain ⟨o1, o2, g1, g2, g3⟩ := hold.obj b c1 K1 hb
    by_cases hc : c1 = c
    ·subst hc
     have hbe := k6 b K1 (Loc.upto_sub _ _ hb)
     subst hbe
     exact ⟨.dead, _, dead_at C hf hj (Loc.upto_lt hb), r2, .dead _⟩
    ·exact ⟨o1, o2, g1, (r3 c1 hc).trans g2, g3⟩
   stp := ⟨hst.ext, hst.new, hst.fresh, hst.base, hst.size, hst.ro, fun c1 hc1 hall => (r3 c1 (by omega)).trans (hst.frame c1 hc1 hall), by rw [r4]; exact hst.hsize, r5.trans hst.os, r6.trans hst.tape, r7.trans hst.output⟩
   dom := fun b x hb h0 => by
    obtain ⟨j, h1, h2⟩ := R.dom b x hb h0
    exact ⟨j, (hls j).2 (.inr h1), h2⟩
   tsize := n1, done := n2, todo := n3, ds := n4
   flux := fun g hg' hl => by
    by_cases hgf : g = f
    ·subst hgf
     refine ⟨c, K, _, k1, r2, by simp only [List.size_toArray]; rw [hsp]; exact k3, by simp only [List.size_toArray]; rw [hsp]; exact k4, k5, k6, fun _ => ⟨a.eval g.x, hpx.mono (fun b x h => Loc.upto_sub b x h), ?_⟩⟩
     have hl2 : (a.eval g.x).cells.toList.length = g.n := by simpa using hsz'
     simp only [List.toList_toArray, splice, List.take_zero, List.nil_append]
     rw [List.take_append_of_le_length (by omega), List.take_of_length_le (by omega)]
    ·obtain ⟨c2, K2, c2', j1, j2, j3, j4, j5, j6, j7⟩ := R.flux g hg' (((hls _).1 hl).resolve_left (hnjb g hg'))
     have hc2 : c2 ≠ c := fun e => hgf (apart_at C hg' hf (k6 _ K2 (e ▸ j1)))
     exact ⟨c2, K2, c2', j1, (r3 c2 hc2).trans j2, j3, j4, j5, j6, fun hl' => j7 (((hls _).1 hl').resolve_left (fun e => hgf (C.us g hg' f hf e)))⟩ }
  simpa only [hput] using hK'
theorem FCtx.all (C : FCtx P idf call ops ml tS MS vS φ₀ fl) {r : Option Nat} {Q : Exit → Act → World → Prop} (hQ : ∀ φ' a' w', LRel φ' (tS ops.size) a'.tmps.toList → a'.defers = ds → Rep P idf φ' (MS ops.size) w' → Stp φ₀ (MS 0) w₀ φ' (MS ops.size) w' → (∀ f ∈ fl, ∃ c K c', φ' (MS f.jb).size = some (c, K) ∧ w'.heap[c]? = some (.cells c' f.ty (0, 0)) ∧ f.n ≤ c'.size ∧ K * P.cellsOf f.ty ≤ c'.size ∧ (∀ b K', φ' b = some (c, K') → b = (MS f.jb).size) ∧ ∃ y, VRel φ' (ev (tS f.js) f.x) y ∧ c'.toList.take f.n = y.cells.toList) → Q .normal a' w') :
  ∀ (n : Nat) (listed : Array Bool) (a : Act) (w : World) (φ : Loc), ((List.range ops.size).filter fun i => !listed.getD i false).length ≤ n → FInv P idf ops ml tS MS vS φ₀ w₀ ds fl listed a w φ →
   wpAnyIn (fenceAt r) 0 P .any ops Q n listed a w := by
 have fin : ∀ (listed : Array Bool) (a : Act) (w : World) (φ : Loc), FInv P idf ops ml tS MS vS φ₀ w₀ ds fl listed a w φ → (∀ i, i < ops.size → Listed listed i) → Q .normal a w := by
  intro listed a w φ R hall
  have hrep := R.rep ops.size (Nat.le_refl _)
  have hup := Loc.upto_eq (C.dom_lt R)
  rw [hup] at hrep
  refine hQ φ a w (LRel.of_idx _ _ ?_ ?_) R.ds hrep R.stp fun f hf => ?_
  ·have := (C.env 0 ops.size (Nat.le_refl _)).1
   have := R.tsize
   simp; omega
  ·intro k x y hx hy
   obtain ⟨hlen, henv⟩ := C.env k ops.size (Nat.le_refl _)
   have hy' : a.tmps[k]? = some y := by simpa using hy
   have hk : k < a.tmps.size := (Array.getElem?_eq_some_iff.1 hy').1
   rcases henv with ⟨j, o, hj, ho, hd, hv⟩ | ⟨hno, hv⟩
   ·rw [hv (by rw [← R.tsize]; exact hk)] at hx
    cases hx
    obtain ⟨y', h1, h2⟩ := R.done j o k ho hd (hall j hj) hk
    rw [hy'] at h1; cases h1
    exact h2.mono Loc.upto_sub
   ·rw [hv] at hx
    have := R.todo k hk (fun j o ho hd => absurd hd (hno j o ((Array.getElem?_eq_some_iff.1 ho).1) ho))
    rw [hx, hy'] at this
    cases this with
    | some h => exact h.mono R.stp.ext
  ·obtain ⟨h1, h2, _⟩ := C.f f hf
   obtain ⟨c, K, c', k1, k2, k3, k4, k5, k6, k7⟩ := R.flux f hf (hall _ (by omega))
   exact ⟨c, K, c', k1, k2, k3, k4, k6, k7 (hall _ h2)⟩
 have dead : ∀ (listed : Array Bool) (a : Act) (w : World) (φ : Loc), FInv P idf ops ml tS MS vS φ₀ w₀ ds fl listed a w φ → Region.ready .any ops listed = [] → ∀ i, i < ops.size → Listed listed i := by
  intro listed a w φ R hr i
  induction i using Nat.strongRecOn with
  | _ i ih =>
   intro hi
   by_cases hl : Listed listed i
   ·exact hl
   ·exfalso
    have hmem : i ∈ Region.ready .any ops listed := by
     rw [mem_ready]
     refine ⟨?_, ops[i], by simp [hi], fun e he hb => ?_⟩
     ·unfold Listed at hl
      have hil : i < listed.size := by rw [R.size]; exact hi
      simpa [Array.getD, hil] using hl
     ·have hlt := C.O.back i ops[i] (by simp [hi]) e (Array.mem_toList_iff.2 he) hb
      exact ih e.on hlt (by omega)
    rw [hr] at hmem
    cases hmem
 intro n
 induction n with
 | zero =>
  intro listed a w φ hn R
  have hall : ∀ i, i < ops.size → Listed listed i := by
   intro i hi
   have h0 : ((List.range ops.size).filter fun i => !listed.getD i false) = [] := List.eq_nil_of_length_eq_zero (by omega)
   have := List.filter_eq_nil_iff.1 h0 i (by simpa using hi)
   unfold Listed
   simpa using this
  refine ⟨?_, fin _ _ _ _ R hall⟩
  apply List.eq_nil_iff_forall_not_mem.2
  intro i hi
  rw [mem_ready] at hi
  obtain ⟨h1, o, h2, _⟩ := hi
  have hlt := (Array.getElem?_eq_some_iff.1 h2).1
  have := hall i hlt
  unfold Listed at this
  have hil : i < listed.size := by rw [R.size]; exact hlt
  simp [Array.getD, hil] at this h1
  rw [this] at h1; cases h1
 | succ n ih =>
  intro listed a w φ hn R
  refine ⟨fun hr => fin _ _ _ _ R (dead _ _ _ _ R hr), fun i hi => ?_⟩
  rw [mem_ready] at hi
  obtain ⟨h1, o, ho, hedge⟩ := hi
  have hlt := (Array.getElem?_eq_some_iff.1 ho).1
  have hil : i < listed.size := by rw [R.size]; exact hlt
  have hnl : ¬ Listed listed i := by
   unfold Listed
   simp [Array.getD, hil] at h1 ⊢
   exact h1
  refine C.step R ho hnl (fun e he hb => hedge e (Array.mem_toList_iff.1 he) hb) fun φ' a' w' R' => ih _ _ _ _ ?_ R'
  have hlt2 : ((List.range ops.size).filter fun j => !(listed.setIfInBounds i true).getD j false).length < ((List.range ops.size).filter fun j => !listed.getD j false).length := by
   have e : ((List.range ops.size).filter fun j => !(listed.setIfInBounds i true).getD j false) = (((List.range ops.size).filter fun j => !listed.getD j false).filter fun j => decide (j ≠ i)) := by
    rw [List.filter_filter]
    apply List.filter_congr
    intro j _
    have := listed_set hil j
    unfold Listed at this
    cases h1 : (listed.setIfInBounds i true).getD j false <;> cases h2 : listed.getD j false <;> rw [h1, h2] at this <;> simp at this ⊢ <;> simp [this]
   rw [e]
   apply List.length_filter_lt_length_iff_exists.2
   refine ⟨i, ?_, by simp⟩
   rw [List.mem_filter]
   refine ⟨by simpa using hlt, ?_⟩
   unfold Listed at hnl
   simpa using hnl
  omega
theorem lates_sound {tm : List Value} {φ₀ : Loc} {M₀ : Mem} {w₀ w : World} {φ : Loc} : ∀ (fl : List Flux) (t t' : List Value) (M M' : Mem), runOps call (lates fl) t M = some (t', M') → LRel φ t tm → Rep P idf φ M w → Stp φ₀ M₀ w₀ φ M w →
  (∀ f ∈ fl, okO f.x = true ∧ ∃ b c K c', ev t (.tmp f.p) = .pointer (some ⟨b, 0, none⟩) ∧ φ b = some (c, K) ∧ w.heap[c]? = some (.cells c' f.ty (0, 0)) ∧ f.n ≤ c'.size ∧ K * P.cellsOf f.ty ≤ c'.size ∧ (∀ b' K', φ b' = some (c, K') → b' = b) ∧ ∃ y, VRel φ (ev t f.x) y ∧ c'.toList.take f.n = y.cells.toList) → t' = t ∧ Rep P idf φ M' w ∧ Stp φ₀ M₀ w₀ φ M' w
 | [], t, t', M, M', h, _, hr, hs, _ => by
  simp only [lates, List.map_nil, runOps, Option.some.injEq, Prod.mk.injEq] at h
  obtain ⟨rfl, rfl⟩ := h
  exact ⟨rfl, hr, hs⟩
 | f :: fl, t, t', M, M', h, ht, hr, hs, hf => by
  obtain ⟨hok, b, c, K, c', e1, e2, e3, e4, e5, e6, y, e7, e8⟩ := hf f List.mem_cons_self
  simp only [lates, List.map_cons, runOps] at h
  split at h
  rotate_left
  ·cases h
  rename_i v M1 hst
  unfold stepQ at hst
  rw [if_neg (by simp)] at hst
  unfold stepVal at hst
  simp only [guardOk, if_true, opSem, e1] at hst
  split at hst
  rotate_left
  ·cases hst
  rename_i hg
  split at hst
  rotate_left
  ·cases hst
  rename_i hc
  cases hst
  obtain ⟨hb, hn, hnt⟩ := hc
  have hput : putT t (some f.p) (.pointer (some ⟨b, 0, none⟩)) = t := by
   show t.set f.p _ = t
   have hx : t[f.p]? = some (.pointer (some ⟨b, 0, none⟩)) := by
    have : (t[f.p]?).getD undef = .pointer (some ⟨b, 0, none⟩) := by simpa [ev, List.getD] using e1
    cases h : t[f.p]? with
    | none => rw [h] at this; cases this
    | some z => rw [h] at this; simpa using this
   obtain ⟨h1, h2⟩ := List.getElem?_eq_some_iff.1 hx
   rw [← h2]
   exact List.set_getElem_self h1
  rw [hput] at h
  have hlt := Mem.lt_of_get hg
  have hln : (ev t f.x).cells.toList.length = f.n := by simpa using hn
  have hrel : ORel P idf φ K (.cells (ev t f.x).cells.toList f.ty true) (.cells c' f.ty (0, 0)) := by
   refine .cells _ _ _ _ _ (by rw [hln]; exact e4) ?_ (e7.cells_one hnt) (fun _ => rfl) e5
   rw [hln, e8]; exact e7.cells
  have hbase : M.base = M₀.base := hs.base
  have hr' : Rep P idf φ (M.set b (.cells (ev t f.x).cells.toList f.ty true)) w := by
   refine ⟨hr.bs, fun b1 c1 K1 h1 => ?_, fun b1 b2 c1 K1 K2 h1 h2 l1 l2 => ?_⟩
   ·rw [Mem.get_set _ _ _ hlt]
    by_cases hbe : b1 = b
    ·subst hbe
     rw [e2] at h1; cases h1
     exact ⟨_, _, if_pos rfl, e3, hrel⟩
    ·rw [if_neg hbe]; exact hr.obj b1 c1 K1 h1
   ·rw [Mem.get_set _ _ _ hlt] at l1 l2
    by_cases h3 : b1 = b
    ·subst h3
     rw [e2] at h1; cases h1
     exact (e6 b2 K2 h2).symm
    ·by_cases h4 : b2 = b
     ·subst h4
      rw [e2] at h2; cases h2
      exact e6 b1 K1 h1
     ·rw [if_neg h3] at l1
      rw [if_neg h4] at l2
      exact hr.inj b1 b2 c1 K1 K2 h1 h2 l1 l2
  have hs' : Stp φ₀ M₀ w₀ φ (M.set b (.cells (ev t f.x).cells.toList f.ty true)) w :=
   ⟨hs.ext, hs.new, hs.fresh, hs.base, hs.size, fun b1 h1 => by rw [Mem.get_set _ _ _ hlt, if_neg (by omega)]; exact hs.ro b1 h1, hs.frame, hs.hsize, hs.os, hs.tape, hs.output⟩
  exact lates_sound fl t t' _ M' h ht hr' hs' fun g hg => hf g (List.mem_cons_of_mem _ hg)
end
end Go.Proofs.Ytifemfnjoobiiaa.Run
