/- One operation that gives a slice of unknown spare away: what it leaves as it was. -/
import Derived.Test.YtifemfnjoobiiaaRunK
import Derived.Test.YtifemfnjoobiiaaQuiet
namespace Go.Proofs.Ytifemfnjoobiiaa.Run
open Go Go.RowKit
set_option linter.unusedVariables false
set_option linter.unusedSimpArgs false
section
variable {P : Program} {idf : FuncId → Bool}
theorem plain_append {op : Op} {ty : TypeId} {bytes size : Nat} {str : Bool} {s x : Operand} (hc : compPlain P op = some (.append ty bytes size str s x)) :
  ∃ b args argTypes ts tx, op = .call { callee := .builtin b, args := args, argTypes := argTypes } ∧ args = #[s, x] ∧ argTypes = #[ts, tx] ∧ (∀ (rt : TypeId) consts (as : Array Value), builtin b argTypes rt consts as = (do pure (Next.value (← Builtin.append_ argTypes rt as)))) ∧
   P.underlying ts = some (.slice ty) ∧ (∃ z, elemZ P ty = some (size, z)) ∧ bytesOfT P ty = some bytes ∧ ((str = false ∧ ∃ e', P.underlying tx = some (.slice e')) ∨ (str = true ∧ P.underlying tx = some .string)) := by
 unfold compPlain at hc
 cases op with
 | call c =>
  obtain ⟨callee, args, argTypes⟩ := c
  cases callee with
  | invoke r s => cases hc
  | value f => cases hc
  | builtin b =>
   simp only at hc
   split at hc
   ·rename_i s' x' ts tx ha hty
    have e1 : args = #[s', x'] := by apply Array.ext'; simpa using ha
    have e2 : argTypes = #[ts, tx] := by apply Array.ext'; simpa using hty
    split at hc
    ·rename_i e e' hu1 hu2
     simp only [Option.bind_eq_some_iff] at hc
     obtain ⟨⟨sz, z⟩, hz, hc⟩ := hc
     obtain ⟨by', hby, hq⟩ := map_some hc
     cases hq
     exact ⟨_, _, _, _, _, rfl, e1, e2, fun _ _ _ => rfl, hu1, ⟨z, hz⟩, hby, .inl ⟨rfl, _, hu2⟩⟩
    ·rename_i e hu1 hu2
     simp only [Option.bind_eq_some_iff] at hc
     obtain ⟨⟨sz, z⟩, hz, hc⟩ := hc
     obtain ⟨by', hby, hq⟩ := map_some hc
     cases hq
     exact ⟨_, _, _, _, _, rfl, e1, e2, fun _ _ _ => rfl, hu1, ⟨z, hz⟩, hby, .inr ⟨rfl, hu2⟩⟩
    ·simp only [Option.bind_eq_some_iff] at hc
     obtain ⟨⟨sz, z⟩, hz, hc⟩ := hc
     obtain ⟨by', hby, hq⟩ := map_some hc
     cases hq
    ·cases hc
   all_goals (exfalso; (repeat' split at hc) <;> simp [Option.bind_eq_some_iff, Option.map_eq_some_iff] at hc)
 | _ => exfalso; (try simp only at hc); (repeat' split at hc) <;> first | contradiction | (simp [Option.bind_eq_some_iff, Option.map_eq_some_iff] at hc; done)
theorem step_sound_kill {ops : Array Oper} {i : Nat} {o : Oper} (hops : ops[i]? = some o) {m : MOper} (hc : compOper P idf ops o = some m) {t : List Value} {a : Act} {M M' : Mem} {w : World} {φ : Loc}
  (h : Rep P idf φ M w) (hv : ∀ x ∈ o.op.operands.toList, VRel φ (ev t x) (a.eval x)) (hg : ∀ i b, m.guard = some (i, b) → GRel φ t[i]? a.tmps[i]?) {ty : TypeId} {bytes size : Nat} {str : Bool} {s x : Operand} (hm : m.op = .append ty bytes size str s x) (hgd : guardOk t m.guard = true)
  {b off len cap n : Nat} (hsl : ev t s = .slice (some ⟨b, off, none⟩) len cap) (hn : lenV (ev t x) = some n) (hn0 : ¬ n = 0) {v : Value} (hst : opSem m.op t M = some (v, M')) {r : Option Nat} {Q : Exit → Act → World → Prop} {K : Act → World → Prop}
  (hK : ∀ φ' v' w', VRel φ' v v' → Rep P idf φ' M' w' → Stp φ M w φ' M' w' → Spared φ M w b φ' w' → K (a.put o.dst v') w') : wpOpIn (fenceAt r) 0 P ops Q i K a w := by
 have hj : guardJunk t m.guard = false := by
  cases hju : guardJunk t m.guard with
  | false => rfl
  | true =>
   have h0 : guardOk t m.guard = false := by
    cases hmg : m.guard with
    | none => rw [hmg] at hju; cases hju
    | some p =>
     obtain ⟨i, b⟩ := p
     rw [hmg] at hju
     simp only [guardJunk] at hju
     simp only [guardOk]
     split at hju
     ·rename_i hq; rw [hq]
     ·cases hju
   rw [hgd] at h0; cases h0
 have hwant := guard_rel hc hg hj
 obtain ⟨hcop, hdst⟩ := compOper_op hc
 unfold wpOpIn
 simp only [hops, hwant, hgd, if_true]
 refine ⟨fun f _ => fenceAt_fn r f, ?_⟩
 obtain ⟨hok, hcase⟩ := compOp_ok hcop
 rcases hcase with ⟨f, args, tys, hop, hmm⟩ | hplain
 ·exfalso
  rw [hm] at hmm
  rcases compCall_info (P := P) (idf := idf) (f := f) (as := args.toList) with hcc | ⟨g, y, _, _, _, hcc⟩
  ·rw [hcc] at hmm; cases hmm
  ·rw [hcc] at hmm; unfold identOp at hmm; split at hmm <;> cases hmm
 ·have hsem : o.semAt (fenceAt r).round a.eval = execOp a.eval o := Oper.semAt_eq _ _ _ (plain_no_defer hplain)
  rw [hsem]
  rw [hm] at hplain
  obtain ⟨bi, args, argTypes, ts, tx, hop, rfl, rfl, hbi, hu, ⟨z, hz⟩, hby, hk⟩ := plain_append hplain
  have hexec : execOp a.eval o = (do pure (Next.value (← Builtin.append_ #[ts, tx] o.type #[a.eval s, a.eval x]))) := by
   unfold execOp
   rw [hop]
   simp only [resolve, pure_bind, invoke, hbi]
   simp
  have hvs : VRel φ (ev t s) (a.eval s) := hv s (by rw [hop]; simp [Op.operands, Call.operands])
  have hvx : VRel φ (ev t x) (a.eval x) := hv x (by rw [hop]; simp [Op.operands, Call.operands])
  rw [hm] at hst
  simp only [opSem] at hst
  split at hst
  rotate_left
  ·cases hst
  rename_i hstr
  rw [hsl] at hst hvs
  obtain ⟨φ', v', w', g1, g2, g3, g4, g5⟩ := g_append_kill h hu hz hby (tx := tx) (ty := o.type) (by rcases hk with ⟨_, e', hk⟩ | ⟨_, hk⟩; exact .inl ⟨e', hk⟩; exact .inr hk) hvs hvx
   (fun y hy => by
    rcases hk with ⟨h1, _⟩ | ⟨_, hk⟩
    ·rw [hy, h1] at hstr; cases hstr
    ·exact hk)
   (fun _ _ _ hy => by
    rcases hk with ⟨_, hk⟩ | ⟨h1, _⟩
    ·exact hk
    ·rw [hy, h1] at hstr; cases hstr)
   (fun _ hy => by
    rcases hk with ⟨_, hk⟩ | ⟨h1, _⟩
    ·exact hk
    ·rw [hy, h1] at hstr; cases hstr) hn0 hn hst
  have hrun : (execOp a.eval o).run P w = .ok (.value v') w' := by rw [hexec]; simp [g1]
  rw [hrun, Oper.uponIn_value]
  exact hK φ' v' w' g2 g3 g4 g5
theorem Rep.spare {φ : Loc} {M : Mem} {w w' : World} (h : Rep P idf φ M w) {φd : Loc} {Md : Mem} {b : Nat} {φ' : Loc} (hs : Spared φd Md w b φ' w') (hb : ∀ b' c K K', φ b' = some (c, K) → φd b = some (c, K') → M.get b' ≠ some .dead → M.get b' = Md.get b) : Rep P idf φ M w' := by
 obtain ⟨c, Kd, cs, t, e1, e2, e3, c', c'', e4, e5, e6, e7, _⟩ := hs
 refine ⟨h.bs, fun b' c1 K1 hb' => ?_, h.inj⟩
 obtain ⟨o, o', g1, g2, g3⟩ := h.obj b' c1 K1 hb'
 by_cases hc : c1 = c
 ·subst hc
  by_cases hd : o = .dead
  ·subst hd
   exact ⟨.dead, _, g1, e5, .dead _⟩
  ·have he := hb b' c1 K1 Kd hb' e1 (by rw [g1]; intro h; exact hd (Option.some.inj h))
   rw [g1, e2] at he
   cases he
   rw [e4] at g2
   cases g2
   refine ⟨_, _, g1, e5, ?_⟩
   cases g3 with
   | cells _ _ _ _ _ hl hr ho hw hK => exact .cells _ _ _ _ _ (by omega) (by rw [e7]; exact hr) ho (fun _ => rfl) (by omega)
 ·exact ⟨o, o', g1, (e3 c1 hc (h.lt hb').2).trans g2, g3⟩
end
end Go.Proofs.Ytifemfnjoobiiaa.Run
