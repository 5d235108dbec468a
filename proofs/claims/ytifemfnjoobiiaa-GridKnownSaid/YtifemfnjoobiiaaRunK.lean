/- The code of a function does what this session's small code says: operations, regions. No statement of the program's is proved here. -/
import Derived.Test.YtifemfnjoobiiaaRunJ
namespace Go.Proofs.Ytifemfnjoobiiaa.Run
open Go Go.RowKit
set_option linter.unusedVariables false
set_option linter.unusedSimpArgs false
def fenceAt : Option Nat → Fence
 | none => Fence.wide
 | some l => Fence.wide.inRound l
theorem fenceAt_fn (r : Option Nat) (f : FuncId) : (fenceAt r).fn f := by cases r <;> trivial
theorem fenceAt_round (r : Option Nat) : (fenceAt r).round = r := by cases r <;> rfl
theorem fenceAt_depth (r : Option Nat) : (fenceAt r).depth = none := by cases r <;> rfl
section
variable (P : Program) (idf : FuncId → Bool)
def Post (φ : Loc) (M : Mem) (w : World) (r : Value) (M' : Mem) : Ending → World → Prop :=
 fun e w' => ∃ φ' r', e = .returned r' ∧ VRel φ' r r' ∧ Rep P idf φ' M' w' ∧ Stp φ M w φ' M' w'
def CallOK (call : CallF) : Prop :=
 ∀ (φ : Loc) (M : Mem) (w : World) (v v' : Value) (args : List Value) (args' : Array Value) (r : Value) (M' : Mem), call v args M = some (r, M') → VRel φ v v' → LRel φ args args'.toList → Rep P idf φ M w →
  (∃ f first cap, v' = .func (.func f) first cap ∧ (callFunc f (first ++ args' ++ cap)).run P w = .ok (.enter f (first ++ args' ++ cap)) w ∧ CallsIn Fence.wide 0 P f (first ++ args' ++ cap) w (Post P idf φ M w r M')) ∨
  (∃ l f tmps assign body, v' = .func (.yield l) #[] #[] ∧ (Instr.yield l args').run P w = .ok (.round l f tmps assign body) w ∧ RoundIn Fence.wide 0 P l f tmps assign body w (Post P idf φ M w r M'))
def IdOK : Prop := ∀ f, idf f = true → match noz P f with
 | none => ∀ (x : Value) (w : World), (callFunc f #[x]).run P w = .ok (.value x) w
 | some e => ∃ t ps, P.underlying t = some (.slice e) ∧ szOf P e = some 1 ∧ ∀ (x : Value) (w : World), (callFunc f #[x]).run P w = ((Extern.BytealgMakeNoZero.makeNoZero ps #[t] #[x]).run P w).andThen fun v w' => .ok (.value v) w'
variable {P idf}
theorem callsIn_at {r : Option Nat} {f : FuncId} {args : Array Value} {w : World} {R : Ending → World → Prop} (h : CallsIn Fence.wide 0 P f args w R) : CallsIn (fenceAt r) (0 - 1) P f args w R := by
 cases r with
 | none => exact h
 | some l => exact h
theorem roundIn_at {r : Option Nat} {l : Nat} {f : FuncId} {tmps : Array Value} {assign body : Code} {w : World} {R : Ending → World → Prop} (h : RoundIn Fence.wide 0 P l f tmps assign body w R) : RoundIn (fenceAt r) (0 - 1) P l f tmps assign body w R := by
 cases r with
 | none => exact h
 | some l => exact h
inductive GRel (φ : Loc) : Option Value → Option Value → Prop
 | none : GRel φ none none
 | some {x y : Value} (h : VRel φ x y) : GRel φ (some x) (some y)
theorem guard_rel {φ : Loc} {t : List Value} {ops : Array Oper} {o : Oper} {m : MOper} (hc : compOper P idf ops o = some m) {a : Act} (hg : ∀ i b, m.guard = some (i, b) → GRel φ t[i]? a.tmps[i]?) (hj : guardJunk t m.guard = false) : Region.wanted o (yielded ops a.tmps) = guardOk t m.guard := by
 unfold compOper at hc
 simp only [Option.bind_eq_some_iff] at hc
 obtain ⟨op, hop, hc⟩ := hc
 split at hc
 ·rename_i h0; cases hc; simp [Region.wanted, h0, guardOk]
 ·rename_i j b h0
  obtain ⟨tmp, htmp, rfl⟩ := map_some hc
  have := hg tmp b rfl
  simp only [Region.wanted, h0, yielded, htmp, Option.bind_some, guardOk]
  cases hx : t[tmp]? with
  | none =>
   rw [hx] at this
   cases hy : a.tmps[tmp]? with
   | none => rfl
   | some y => rw [hy] at this; cases this
  | some x =>
   rw [hx] at this
   cases hy : a.tmps[tmp]? with
   | none => rw [hy] at this; cases this
   | some y =>
    rw [hy] at this
    cases this with
    | some h =>
     by_cases hju : x = .chan none
     ·subst hju; simp only [guardJunk, hx] at hj; cases hj
     ·cases h <;> first | rfl | exact absurd rfl hju | (rename_i c; cases c <;> cases b <;> rfl)
theorem compOper_op {ops : Array Oper} {o : Oper} {m : MOper} (hc : compOper P idf ops o = some m) : compOp P idf o.op = some m.op ∧ m.dst = o.dst := by
 unfold compOper at hc
 simp only [Option.bind_eq_some_iff] at hc
 obtain ⟨op, hop, hc⟩ := hc
 split at hc
 ·cases hc; exact ⟨hop, rfl⟩
 ·obtain ⟨tmp, _, rfl⟩ := map_some hc; exact ⟨hop, rfl⟩
theorem compOp_ok {op : Op} {m : MOp} (hc : compOp P idf op = some m) : op.operands.toList.all okO = true ∧ ((∃ f args tys, op = .call { callee := .value f, args := args, argTypes := tys } ∧ m = compCall P idf f args.toList) ∨ compPlain P op = some m) := by
 unfold compOp at hc
 split at hc
 ·rename_i hok
  refine ⟨hok, ?_⟩
  split at hc
  ·cases hc; exact .inl ⟨_, _, _, rfl, rfl⟩
  ·exact .inr hc
 ·cases hc
theorem plain_no_defer {op : Op} {m : MOp} (hc : compPlain P op = some m) : ∀ c, op ≠ .defer c := by
 rintro c rfl
 simp [compPlain] at hc
theorem compCall_info {f : Operand} {as : List Operand} : compCall P idf f as = .call f as ∨ ∃ g x, f = .func g ∧ as = [x] ∧ idf g = true ∧ compCall P idf f as = identOp P g x := by
 unfold compCall
 split
 ·rename_i g x
  split
  ·rename_i h; exact .inr ⟨g, x, rfl, rfl, h, rfl⟩
  ·exact .inl rfl
 ·exact .inl rfl
theorem stepVal_plain {call : CallF} {m : MOper} {t : List Value} {M : Mem} (hg : guardOk t m.guard = true) (hn : ∀ f as, m.op ≠ .call f as) : stepVal call m t M = opSem m.op t M := by
 unfold stepVal
 rw [if_pos hg]
 cases h : m.op <;> first | rfl | exact absurd h (hn _ _)
theorem plain_no_call {op : Op} {m : MOp} (hc : compPlain P op = some m) : ∀ f as, m ≠ .call f as := by
 intro f as he
 subst he
 unfold compPlain at hc
 (repeat' split at hc) <;> simp [Option.bind_eq_some_iff] at hc
theorem step_sound {call : CallF} (CO : CallOK P idf call) (ID : IdOK P idf) {ops : Array Oper} {i : Nat} {o : Oper} (hops : ops[i]? = some o) {m : MOper} (hc : compOper P idf ops o = some m) {t : List Value} {a : Act} {M M' : Mem} {w : World} {φ : Loc}
  (h : Rep P idf φ M w) (hv : ∀ x ∈ o.op.operands.toList, VRel φ (ev t x) (a.eval x)) (hg : ∀ i b, m.guard = some (i, b) → GRel φ t[i]? a.tmps[i]?) {v : Value} (hst : stepVal call m t M = some (v, M')) {r : Option Nat} {Q : Exit → Act → World → Prop} {K : Act → World → Prop}
  (hK : ∀ φ' v' w', VRel φ' v v' → Rep P idf φ' M' w' → Stp φ M w φ' M' w' → K (a.put o.dst v') w') : wpOpIn (fenceAt r) 0 P ops Q i K a w := by
 have hj : guardJunk t m.guard = false := by
  cases hju : guardJunk t m.guard with
  | false => rfl
  | true =>
   have h0 : guardOk t m.guard = false := by
    cases hmg : m.guard with
    | none => rw [hmg] at hju; cases hju
    | some p =>
     obtain ⟨i, b⟩ := p
     rw [hmg] at hju
     simp only [guardJunk] at hju
     simp only [guardOk]
     split at hju
     ·rename_i hq; rw [hq]
     ·cases hju
   unfold stepVal offV at hst
   rw [h0, hju] at hst
   simp at hst
 have hwant := guard_rel hc hg hj
 obtain ⟨hcop, hdst⟩ := compOper_op hc
 unfold wpOpIn
 simp only [hops, hwant]
 cases hgd : guardOk t m.guard with
 | false =>
  simp only [Bool.false_eq_true, if_false]
  unfold stepVal offV at hst
  rw [hgd, hj] at hst
  simp only [Bool.false_eq_true, if_false, Option.some.injEq, Prod.mk.injEq] at hst
  obtain ⟨rfl, rfl⟩ := hst
  exact ⟨fun f _ => fenceAt_fn r f, hK φ _ w VRel.undef h (Stp.refl _ _ _)⟩
 | true =>
  simp only [if_true]
  refine ⟨fun f _ => fenceAt_fn r f, ?_⟩
  obtain ⟨hok, hcase⟩ := compOp_ok hcop
  rcases hcase with ⟨f, args, tys, hop, hm⟩ | hplain
  ·have hsem : o.semAt (fenceAt r).round a.eval = execOp a.eval o := Oper.semAt_eq _ _ _ (by rw [hop]; intro c hcc; cases hcc)
   rw [hsem]
   have hexec : execOp a.eval o = (do let d ← resolve a.eval { callee := .value f, args := args, argTypes := tys } o.type; invoke d.target d.args) := by unfold execOp; rw [hop]
   have hvf : VRel φ (ev t f) (a.eval f) := hv f (by rw [hop]; simp [Op.operands, Call.operands])
   have hva : LRel φ (args.toList.map (ev t)) (args.map a.eval).toList := by
    rw [Array.toList_map]
    exact evs_rel fun x hx => hv x (by rw [hop]; simp [Op.operands, Call.operands]; exact .inr (by simpa using hx))
   rcases compCall_info (P := P) (idf := idf) (f := f) (as := args.toList) with hcc | ⟨g, x, rfl, has, hid, hcc⟩
   ·rw [hcc] at hm
    have hcall : call (ev t f) (args.toList.map (ev t)) M = some (v, M') := by
     unfold stepVal at hst
     rw [if_pos hgd, hm] at hst
     exact hst
    rcases CO φ M w _ _ _ _ _ _ hcall hvf hva h with ⟨g, first, cap, hfe, hcf, hci⟩ | ⟨l, g, tmps, as, bd, hfe, hy, hri⟩
    ·have hrun : (execOp a.eval o).run P w = .ok (.enter g (first ++ args.map a.eval ++ cap)) w := by
      rw [hexec]
      simp only [resolve, hfe, Deferred.ofValue, pure_bind, invoke]
      exact hcf
     rw [hrun, Oper.uponIn_enter]
     refine ⟨fun hd => by (rw [fenceAt_depth] at hd; cases hd), callsIn_at (hci.mono ?_)⟩
     rintro e w' ⟨φ', r', rfl, h1, h2, h3⟩
     exact hK φ' r' w' h1 h2 h3
    ·have hrun : (execOp a.eval o).run P w = .ok (.round l g tmps as bd) w := by
      rw [hexec]
      simp only [resolve, hfe, Deferred.ofValue, pure_bind, invoke]
      simpa using hy
     rw [hrun, Oper.uponIn_round]
     refine ⟨fun hd => by (rw [fenceAt_depth] at hd; cases hd), roundIn_at (hri.mono ?_)⟩
     rintro e w' ⟨φ', r', rfl, h1, h2, h3⟩
     exact hK φ' r' w' h1 h2 h3
   ·rw [hcc] at hm
    have hargs : args = #[x] := by apply Array.ext'; simpa using has
    subst hargs
    have hid2 := ID g hid
    have hfe : a.eval (.func g) = .func (.func g) #[] #[] := rfl
    have hvx := hv x (by rw [hop]; simp [Op.operands, Call.operands])
    have hexec2 : execOp a.eval o = callFunc g #[a.eval x] := by
     rw [hexec]
     simp only [resolve, hfe, Deferred.ofValue, pure_bind, invoke]
     simp
    unfold identOp at hm
    cases hnz : noz P g with
    | none =>
     rw [hnz] at hid2 hm
     simp only at hid2 hm
     rw [stepVal_plain hgd (by rw [hm]; intro _ _ hh; cases hh), hm] at hst
     simp only [opSem, Option.some.injEq, Prod.mk.injEq] at hst
     obtain ⟨rfl, rfl⟩ := hst
     have hrun : (execOp a.eval o).run P w = .ok (.value (a.eval x)) w := by
      rw [hexec2]
      exact hid2 (a.eval x) w
     rw [hrun, Oper.uponIn_value]
     exact hK φ _ w hvx h (Stp.refl _ _ _)
    | some e =>
     rw [hnz] at hid2 hm
     simp only at hid2 hm
     obtain ⟨ty, ps, hu, hsz, hrun⟩ := hid2
     rw [stepVal_plain hgd (by rw [hm]; intro _ _ hh; cases hh), hm] at hst
     obtain ⟨φ', v', w', g1, g2, g3, g4⟩ := g_noZero h hu hsz hvx hst ps
     have hrun2 : (execOp a.eval o).run P w = .ok (.value v') w' := by
      rw [hexec2, hrun, g1]
      rfl
     rw [hrun2, Oper.uponIn_value]
     exact hK φ' v' w' g2 g3 g4
  ·have hsem : o.semAt (fenceAt r).round a.eval = execOp a.eval o := Oper.semAt_eq _ _ _ (plain_no_defer hplain)
   rw [hsem]
   rw [stepVal_plain hgd (plain_no_call hplain)] at hst
   obtain ⟨φ', v', w', nx, h1, h2, h3, h4, h5⟩ := op_sound h hv hplain hok hst
   rw [h1]
   rcases h2 with rfl | ⟨rfl, rfl⟩
   ·rw [Oper.uponIn_value]; exact hK φ' v' w' h3 h4 h5
   ·rw [Oper.uponIn_skip]; exact hK φ' _ w' h3 h4 h5
end
end Go.Proofs.Ytifemfnjoobiiaa.Run
