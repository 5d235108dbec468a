/- The code of a function does what this session's small code says. No statement of the program's is proved here. -/
import Derived.Test.YtkelbhcaecojkaaRunN
import Derived.LoopNIn
import Derived.RangeFuncRecord
import Derived.RangeFuncNested
namespace Go.Proofs.Ytkelbhcaecojkaa.Run
open Go Go.RowKit
set_option linter.unusedVariables false
set_option linter.unusedSimpArgs false
section
variable {P : Program} {idf : FuncId → Bool} {call : CallF}
theorem ops_seq (CO : CallOK P idf call) (ID : IdOK P idf) {ops : Array Oper} {r : Option Nat} {Q : Exit → Act → World → Prop} : ∀ (l : List MOper) (i : Nat) (t t' : List Value) (M M' : Mem) (a : Act) (w : World) (φ : Loc),
    (∀ (j : Nat) (m : MOper), l[j]? = some m → m.q = 2 ∧ ∃ o, ops[i + j]? = some o ∧ compOper P idf ops o = some m) → runOps call l t M = some (t', M') → LRel φ t a.tmps.toList → Rep P idf φ M w →
    (∀ φ' a' w', LRel φ' t' a'.tmps.toList → a'.defers = a.defers → Rep P idf φ' M' w' → Stp φ M w φ' M' w' → Q .normal a' w') → wpOpsIn (fenceAt r) 0 P ops Q (List.range' i l.length) a w
  | [], i, t, t', M, M', a, w, φ, hl, hr, ht, h, hQ => by
    simp only [runOps, Option.some.injEq, Prod.mk.injEq] at hr
    obtain ⟨rfl, rfl⟩ := hr
    exact hQ φ a w ht rfl h (Stp.refl _ _ _)
  | m :: l, i, t, t', M, M', a, w, φ, hl, hr, ht, h, hQ => by
    simp only [runOps] at hr
    split at hr
    · rename_i v M1 h1
      obtain ⟨hq, o, ho, hc⟩ := hl 0 m rfl
      simp only [Nat.add_zero] at ho
      have hst : stepVal call m t M = some (v, M1) := by
        unfold stepQ at h1
        rw [if_neg (by rw [hq]; rintro (h | ⟨h, _⟩) <;> cases h)] at h1; exact h1
      have hok := (compOp_ok (compOper_op hc).1).1
      have hv : ∀ x ∈ o.op.operands.toList, VRel φ (ev t x) (a.eval x) := fun x hx => ev_rel ht (List.all_eq_true.1 hok x hx)
      have hg : ∀ k b, m.guard = some (k, b) → GRel φ t[k]? a.tmps[k]? := by
        intro k b _
        by_cases hk : k < t.length
        · have hx : t[k]? = some t[k] := by simp [hk]
          obtain ⟨y, h1, h2⟩ := ht.get hx
          rw [hx, show a.tmps[k]? = some y by simpa using h1]
          exact .some h2
        · have hlen := ht.length
          have hk' : t.length ≤ (k : Nat) := Nat.le_of_not_lt hk
          have h1 : t[k]? = none := List.getElem?_eq_none hk'
          have h2 : a.tmps[k]? = none := by
            rw [← Array.getElem?_toList]
            exact List.getElem?_eq_none (hlen ▸ hk')
          rw [h1, h2]
          exact .none
      simp only [List.length_cons, List.range'_succ]
      rw [wpOpsIn_cons]
      refine step_sound CO ID ho hc h hv hg hst fun φ' v' w' h1 h2 h3 => ?_
      have hdst := (compOper_op hc).2
      refine ops_seq CO ID l (i + 1) _ t' M1 M' _ w' φ' (fun j mj hj => by have := hl (j + 1) mj (by simpa using hj); rwa [show i + (j + 1) = i + 1 + j by omega] at this) hr ?_ h2 ?_
      · rw [hdst]
        have hm := ht.mono h3.ext
        cases hd : o.dst with
        | none => simpa [putT, Act.put] using hm
        | some d => simpa [putT, Act.put, Array.toList_setIfInBounds] using hm.set h1 d
      · intro φ2 a2 w2 g1 g2 g3 g4
        refine hQ φ2 a2 w2 g1 (g2.trans (by cases o.dst <;> rfl)) g3 (h3.trans g4)
    · cases hr
theorem region_sound (hmo : P.follows .mixedOrders = true) (CO : CallOK P idf call) (CS : CallStep call) (ID : IdOK P idf) {id : Nat} {ops : Array Oper} {draw : Bool} {ms : List MOper} (hc : compOps P idf ops draw = some ms) {r : Option Nat} {Q : Exit → Act → World → Prop}
    {t t' : List Value} {M M' : Mem} {a : Act} {w : World} {φ : Loc} (hr : runOps call ms t M = some (t', M')) (ht : LRel φ t a.tmps.toList) (h : Rep P idf φ M w)
    (hQ : ∀ φ' a' w', LRel φ' t' a'.tmps.toList → a'.defers = a.defers → Rep P idf φ' M' w' → Stp φ M w φ' M' w' → Q .normal a' w') : (Code.region id ops draw).wpIn (fenceAt r) 0 P Q a w := by
  unfold compOps at hc
  simp only [Option.bind_eq_some_iff] at hc
  obtain ⟨ms0, h0, hc⟩ := hc
  obtain ⟨hlen, hidx⟩ := mapM_idx h0
  simp only [Array.length_toList] at hlen
  cases draw with
  | false =>
    simp only [Bool.false_eq_true, if_false, Option.some.injEq] at hc
    subst hc
    refine wpIn_region ?_
    rw [hlen, List.range_eq_range']
    refine ops_seq CO ID ms0 0 t t' M M' a w φ (fun j m hj => ?_) hr ht h hQ
    have hjl := (List.getElem?_eq_some_iff.1 hj).1
    have ho : ops[j]? = some ops[j] := by simp [show j < ops.size by omega]
    obtain ⟨m', h1, h2⟩ := hidx j ops[j] (by simp)
    rw [hj] at h1; cases h1
    refine ⟨?_, ops[j], by simp, h2⟩
    unfold compOper at h2
    simp only [Option.bind_eq_some_iff] at h2
    obtain ⟨op, _, h2⟩ := h2
    split at h2
    · cases h2; simp
    · obtain ⟨tmp, _, rfl⟩ := map_some h2; simp
  | true =>
    simp only [if_true] at hc
    split at hc
    · rename_i hord
      cases hc
      have O := orderOk_spec hord
      obtain ⟨tS, MS, vS, e1, e2, e3, e4, htr⟩ := runOps_trace hr
      rw [mark3_length, marked_length] at e3 e4
      have hmk : ∀ (i : Nat) (m : MOper), ms0[i]? = some m → ∃ q, (mark3 (marked (aheads [] ops.toList) (impure 0 ms0) 0 ms0))[i]? = some { m with q := q } ∧ (q = (if pureOp m.op then 0 else if aloneAt (aheads [] ops.toList) (impure 0 ms0) i then 2 else 1) ∨ (q = 3 ∧ pureOp m.op = false ∧ aloneAt (aheads [] ops.toList) (impure 0 ms0) i = false)) := by
        intro i m hm
        have h1 := marked_spec (aheads [] ops.toList) (impure 0 ms0) ms0 0 i m hm
        rw [Nat.zero_add] at h1
        obtain ⟨q, h2, h3⟩ := mark3_spec _ i _ h1
        refine ⟨q, h2, ?_⟩
        rcases h3 with h3 | ⟨h3, h4, h5⟩
        · exact .inl h3
        · refine .inr ⟨h4, ?_⟩
          simp only at h3 h5
          cases hp : pureOp m.op with
          | true => rw [hp] at h3; simp at h3
          | false =>
            cases ha : aloneAt (aheads [] ops.toList) (impure 0 ms0) i with
            | true => rw [hp, ha] at h3; simp at h3
            | false => exact ⟨rfl, rfl⟩
      have hinv : ∀ (i : Nat) (m : MOper), (mark3 (marked (aheads [] ops.toList) (impure 0 ms0) 0 ms0))[i]? = some m → ∃ m0 q, ms0[i]? = some m0 ∧ m = { m0 with q := q } ∧ (q = (if pureOp m0.op then 0 else if aloneAt (aheads [] ops.toList) (impure 0 ms0) i then 2 else 1) ∨ (q = 3 ∧ pureOp m0.op = false ∧ aloneAt (aheads [] ops.toList) (impure 0 ms0) i = false)) := by
        intro i m hm
        have hi := (List.getElem?_eq_some_iff.1 hm).1
        rw [mark3_length, marked_length] at hi
        have h1 : ms0[i]? = some ms0[i] := by simp [hi]
        obtain ⟨q, h2, h3⟩ := hmk i _ h1
        rw [hm] at h2
        exact ⟨_, q, h1, by simpa using h2, h3⟩
      have C : RCtx P idf call ops (mark3 (marked (aheads [] ops.toList) (impure 0 ms0) 0 ms0)) tS MS vS φ := {
        CO := CO, CS := CS, ID := ID, O := O
        len := by rw [mark3_length, marked_length]; exact hlen.symm
        m := fun i o ho => by
          obtain ⟨m0, h1, h2⟩ := hidx i o (by simpa using ho)
          obtain ⟨q, h3, _⟩ := hmk i m0 h1
          exact ⟨_, m0, h3, h2, rfl, rfl, rfl⟩
        q := fun i m hm => by
          obtain ⟨m0, q, h1, rfl, h2⟩ := hinv i m hm
          simp only
          rcases h2 with h2 | ⟨h2, h3, _⟩
          · cases hp : pureOp m0.op with
            | true => exact .inl ⟨by rw [h2, hp]; simp, rfl⟩
            | false =>
              cases ha : aloneAt (aheads [] ops.toList) (impure 0 ms0) i with
              | true => exact .inr (.inr ⟨by rw [h2, hp, ha]; simp, rfl⟩)
              | false => exact .inr (.inl ⟨by rw [h2, hp, ha]; simp, rfl⟩)
          · exact .inr (.inl ⟨.inr h2, h3⟩)
        one := fun i j mi mj h1 h2 h3 h4 => mark3_one _ (fun m hm h0 => by
          obtain ⟨k, hk⟩ := List.mem_iff_getElem?.1 hm
          have hkl := (List.getElem?_eq_some_iff.1 hk).1
          rw [marked_length] at hkl
          have := marked_spec (aheads [] ops.toList) (impure 0 ms0) ms0 0 k ms0[k] (by simp [hkl])
          rw [hk] at this
          have this := Option.some.inj this
          rw [this] at h0
          simp only at h0
          split at h0
          · cases h0
          · split at h0 <;> cases h0) i j mi mj h1 h2 h3 h4
        alone := fun i j m mj hm hq hmj hpj hne => by
          obtain ⟨m0, q, h1, rfl, h3⟩ := hinv i m hm
          obtain ⟨mj0, qj, h2, rfl, _⟩ := hinv j mj hmj
          simp only at hq hpj
          have hal : aloneAt (aheads [] ops.toList) (impure 0 ms0) i = true := by
            rcases h3 with h3 | ⟨h3, _⟩
            · cases hp : pureOp m0.op with
              | true => rw [hp] at h3; simp at h3; omega
              | false =>
                rw [hp] at h3
                cases ha : aloneAt (aheads [] ops.toList) (impure 0 ms0) i with
                | true => rfl
                | false => rw [ha] at h3; simp at h3; omega
            · omega
          have hin := impure_spec ms0 0 j mj0 h2 hpj
          rw [Nat.zero_add] at hin
          unfold aloneAt at hal
          have := List.all_eq_true.1 hal j hin
          simp only [Bool.or_eq_true, beq_iff_eq] at this
          rcases this with (h | h) | h
          · exact absurd h.symm hne
          · exact .inl h
          · exact .inr h
        tr := htr
        b0 := by rw [e2]; exact h.bs
        φ := fun b x hb => by rw [e2]; obtain ⟨c, K⟩ := x; exact (h.lt hb).1 }
      obtain ⟨K, k1, k2, k3, k4⟩ := next_w ops.size (fun j => ∃ m : MOper, (mark3 (marked (aheads [] ops.toList) (impure 0 ms0) 0 ms0))[j]? = some m ∧ m.q = 2) ops.size 0 (by omega)
      have hnow : ∀ (j : Nat) (mj : MOper), 0 ≤ j → j < K → (mark3 (marked (aheads [] ops.toList) (impure 0 ms0) 0 ms0))[j]? = some mj → mj.q ≠ 2 := fun j mj h1 h2 hmj hqj => k3 j h1 h2 ⟨mj, hmj, hqj⟩
      have hnl : ∀ i, ¬ Listed (Array.replicate ops.size false) i := by
        intro i
        unfold Listed
        by_cases hi : i < ops.size
        · simp [hi]
        · simp [hi]
      have hw' : Rep P idf φ M { w with drawn := w.drawn + 1 } := h.of_heap rfl
      refine wpIn_region_any hmo (C.all (w₀ := { w with drawn := w.drawn + 1 }) (ds := a.defers) ?_ ops.size (Array.replicate ops.size false) a _ φ 0 K ?_ {
        size := by simp, closed := fun i o ho hl => absurd hl (hnl i), kle := k2, lle := Nat.zero_le _, lw := .inl rfl, nowr := hnow
        kdone := fun i m hi hm hq => absurd hq (hnow i m (Nat.zero_le _) hi hm)
        knot := fun i m _ _ _ => hnl i
        kW := fun hk => k4 hk
        below := fun i m _ _ hl => absurd hl (hnl i)
        rep := fun i _ hi => ?_
        stp := ?_
        dom := fun b x hb h0 => by rw [hb] at h0; cases h0
        sep := fun _ j₁ j₂ b₁ b₂ c K₁ K₂ x1 x2 x3 x4 g1 g2 l1 l2 => ?_
        tsize := by rw [e1]; have := ht.length; simp at this ⊢; omega
        done := fun j o d _ _ hl => absurd hl (hnl j)
        todo := fun d hd _ => ?_
        ds := rfl })
      · intro φ' a' w' g1 g2 g3 g4
        have x1 : tS ops.size = t' := by rw [hlen]; exact e3
        have x2 : MS ops.size = M' := by rw [hlen]; exact e4
        rw [x1] at g1
        rw [x2] at g3 g4
        rw [e2] at g4
        exact hQ φ' a' w' g1 g2 g3 ((Stp.drew _).trans g4)
      · exact Nat.le_trans (List.length_filter_le _ _) (by simp)
      · have hS := C.same i (by omega)
        have hget : ∀ b, b < (MS 0).size → (MS i).get b = (MS 0).get b ∨ (MS i).get b = some .dead := fun b hb => ((hS.2 0 (Nat.zero_le _)).2 (fun j m h1 h2 hm => hnow j m h1 (by omega) hm) b hb).imp (fun x => x) And.left
        have hsz := (hS.2 0 (Nat.zero_le _)).1
        rw [e2] at hget hsz
        rw [Loc.upto_eq (fun b x hb => by obtain ⟨c, K⟩ := x; have := (h.lt hb).1; omega)]
        refine ⟨hS.1.ok C.b0, fun b c K hb => ?_, fun b₁ b₂ c K₁ K₂ g1 g2 l1 l2 => ?_⟩
        · obtain ⟨o, o', g1, g2, g3⟩ := hw'.obj b c K hb
          rcases hget b (h.lt hb).1 with e | e
          · exact ⟨o, o', by rw [e]; exact g1, g2, g3⟩
          · exact ⟨.dead, o', e, g2, .dead _⟩
        · rw [(hget _ (h.lt g1).1).resolve_right l1] at l1
          rw [(hget _ (h.lt g2).1).resolve_right l2] at l2
          exact h.inj b₁ b₂ c K₁ K₂ g1 g2 l1 l2
      · have hS := (C.same K k2).1
        exact ⟨fun _ _ h => h, fun b x h h' => by (rw [h] at h'; cases h'), fun b c K h h' => by (rw [h] at h'; cases h'), hS.base, hS.size, hS.ro, fun _ _ _ => rfl, Nat.le_refl _, rfl, rfl, rfl⟩
      · have alive : ∀ j b x, j ≤ K → φ b = some x → (MS j).get b ≠ some .dead → M.get b ≠ some .dead := fun j b x y1 y2 y3 => by
          have hS := C.same j (by omega)
          have := ((hS.2 0 (Nat.zero_le _)).2 (fun k m h1 h2 hm => hnow k m h1 (by omega) hm) b (by rw [e2]; obtain ⟨c, K⟩ := x; exact (h.lt y2).1)).imp (fun x => x) And.left
          rw [this.resolve_right y3, e2] at y3
          exact y3
        exact h.inj b₁ b₂ c K₁ K₂ (Loc.upto_sub _ _ g1) (Loc.upto_sub _ _ g2) (alive j₁ b₁ _ x2 (Loc.upto_sub _ _ g1) l1) (alive j₂ b₂ _ x4 (Loc.upto_sub _ _ g2) l2)
      · rw [e1]
        have hlt : d < t.length := by have := ht.length; simp at this; omega
        have hx : t[d]? = some t[d] := by simp [hlt]
        obtain ⟨y, h1, h2⟩ := ht.get hx
        rw [hx, show a.tmps[d]? = some y by simpa using h1]
        exact .some h2
    · cases hc
end
end Go.Proofs.Ytkelbhcaecojkaa.Run
