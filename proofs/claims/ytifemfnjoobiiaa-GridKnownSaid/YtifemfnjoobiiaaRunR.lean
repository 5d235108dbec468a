/- What a run of this session's interpreter answers, the program answers. No statement of the program's is proved here. -/
import Derived.Test.YtifemfnjoobiiaaRunQ
namespace Go.Proofs.Ytifemfnjoobiiaa.Run
open Go Go.RowKit
set_option linter.unusedVariables false
set_option linter.unusedSimpArgs false
section
variable {P : Program} {idf : FuncId → Bool} {call : CallF}
def okT : Value → Bool
 | .tuple vs => vs.toList.all okC
 | v => okC v
theorem VRel.okS_eq {φ : Loc} {v v' : Value} (h : VRel φ v v') (ho : Run.okS v = true) : v' = v := by
 cases h <;> first | rfl | (exfalso; simp [Run.okS] at ho)
theorem VRel.okC_eq {φ : Loc} {v v' : Value} (h : VRel φ v v') (ho : Run.okC v = true) : v' = v := by
 cases h with
 | agg a a' ha ia _ =>
  congr 1
  apply Array.ext ha.symm
  intro i h1 h2
  have hs : Run.okS a[i] = true := List.all_eq_true.1 ho _ (by simp)
  exact (ia i a[i] a'[i] (by simp) (by simp)).okS_eq hs
 | bool b => rfl
 | int => rfl
 | str => rfl
 | ptr0 => rfl
 | sl0 => rfl
 | map0 => rfl
 | nilFunc => rfl
 | nilIface => rfl
 | _ => exfalso; simp [Run.okC, Run.okS] at ho
theorem LRel.okC_eq {φ : Loc} {a b : List Value} (h : LRel φ a b) (ho : a.all okC = true) : b = a := by
 induction h with
 | nil => rfl
 | cons hv _ ih =>
  simp only [List.all_cons, Bool.and_eq_true] at ho
  rw [hv.okC_eq ho.1, ih ho.2]
theorem VRel.okT {φ : Loc} {v : Value} (h : okT v = true) : VRel φ v v := by
 unfold Run.okT at h
 split at h
 ·rename_i vs
  exact .tuple _ _ rfl fun i x y hx hy => by
   rw [hx] at hy; cases hy
   exact VRel.okC (List.all_eq_true.1 h x (by simpa using Array.mem_of_getElem? hx))
 ·exact VRel.okC h
theorem run_call {f : FuncId} {fn : Func} {c : Code} (hf : P.funcs[f]? = some fn) (hb : fn.body = some c) (hn : (fn.name == "runtime.NumGoroutine") = false) (args : Array Value) (w : World) : (callFunc f args).run P w = .ok (.enter f args) w := by
 simp only [callFunc, Sem.run_bind, run_program, Result.andThen_ok, hf, hn, Bool.false_eq_true, if_false, hb, Option.isNone_some, Sem.run_pure]
def resOne (tmps : Array Value) : ResultVar → Sem Value
 | .tmp i => pure (tmps.getD i undef)
 | .cell a ty => do loadVar ty (← asAddr (tmps.getD a undef))
theorem results_eq (fn : Func) (tmps : Array Value) : results fn tmps = (do
  let vs ← fn.results.mapM (resOne tmps)
  pure (if h : vs.size = 1 then vs[0] else .tuple vs)) := by
 unfold results
 have : (fun x => match x with | ResultVar.tmp t => (pure (tmps.getD t undef) : Sem Value) | ResultVar.cell a t => do loadVar t (← asAddr (tmps.getD a undef))) = resOne tmps := by
  funext x; cases x <;> rfl
 rw [← this]
 rfl
theorem results_sound {φ : Loc} {M : Mem} {w : World} (h : Rep P idf φ M w) {t : List Value} {tmps : Array Value} (ht : LRel φ t tmps.toList) : ∀ (rs : List ResultVar) (ms : List RVar) (vs : List Value), rs.mapM (compR P) = some ms → resVs t M ms = some vs →
  ∃ vs', (rs.mapM (resOne tmps)).run P w = .ok vs' w ∧ LRel φ vs vs'
 | [], ms, vs, hm, hv => by
  simp at hm; subst hm
  simp [resVs] at hv; subst hv
  exact ⟨[], by simp, .nil⟩
 | r :: rs, ms, vs, hm, hv => by
  simp only [List.mapM_cons, Option.bind_eq_bind, Option.bind_eq_some_iff, Option.pure_def, Option.some.injEq] at hm
  obtain ⟨m, h1, ms', h2, rfl⟩ := hm
  simp only [resVs] at hv
  split at hv
  ·rename_i v vs1 e1 e2
   cases hv
   obtain ⟨vs', g1, g2⟩ := results_sound h ht rs ms' vs1 h2 e2
   have hgd : ∀ i : Nat, VRel φ (t.getD i undef) (tmps.getD i undef) := by
    intro i
    have := ht.getD i
    have e : tmps.toList.getD i Go.undef = tmps.getD i Go.undef := by simp [List.getD]
    rwa [e] at this
   cases r with
   | tmp i =>
    cases h1
    simp only [resV, Option.some.injEq] at e1
    subst e1
    exact ⟨tmps.getD i undef :: vs', by simp only [List.mapM_cons, Sem.run_bind, resOne, Sem.run_pure, Result.andThen_ok, g1], .cons (hgd i) g2⟩
   | cell a ty =>
    obtain ⟨n, hn, rfl⟩ := map_some h1
    simp only [resV] at e1
    have hp := hgd a
    split at e1
    ·rename_i b off hb
     rw [hb] at hp
     have hg : Gives P idf (Instr.loadAt ty (tmps.getD a undef)) φ M w v M := by
      cases n with
      | some n =>
       obtain ⟨c, k1, k2⟩ := map_some e1
       exact g_load h hn hp (by simp only; rw [k1]; simpa using k2)
      | none => exact g_load h hn hp e1
     cases n with
     | some n =>
      obtain ⟨c, k1, k2⟩ := map_some e1
      subst k2
      generalize hpv : tmps.getD a undef = pv at hp
      cases hp with
      | ptr _ _ c' K hbb =>
       obtain ⟨cs', q1, q2, q3, q4⟩ := h.loadN hbb k1
       obtain ⟨q5, q6⟩ := run_agg_some hn w
       refine ⟨.agg cs'.toArray :: vs', ?_, .cons (VRel.of_agg (by simpa using q1) q3) g2⟩
       simp only [List.mapM_cons, Sem.run_bind, resOne, hpv, asAddr, Sem.run_pure, Result.andThen_ok, loadVar, q5, if_true, q6, q4, g1]
     | none =>
      generalize hpv : tmps.getD a undef = pv at hp
      cases hp with
      | ptr _ _ c' K hbb =>
       obtain ⟨v', q1, q2, q3⟩ := h.load1 hbb e1
       have q5 := run_agg_none hn w
       refine ⟨v' :: vs', ?_, .cons q1 g2⟩
       simp only [List.mapM_cons, Sem.run_bind, resOne, hpv, asAddr, Sem.run_pure, Result.andThen_ok, loadVar, q5, Bool.false_eq_true, if_false, run_load, q3, g1]
    ·cases e1
  ·cases hv
theorem res_sound {φ : Loc} {M : Mem} {w : World} (h : Rep P idf φ M w) {fn : Func} {t : List Value} {tmps : Array Value} (ht : LRel φ t tmps.toList) {ms : List RVar} {vs : List Value} (hm : fn.results.toList.mapM (compR P) = some ms) (hv : resVs t M ms = some vs) :
  ∃ r', (results fn tmps).run P w = .ok r' w ∧ VRel φ (tupV vs) r' := by
 obtain ⟨vs', h1, h2⟩ := results_sound h ht fn.results.toList ms vs hm hv
 rw [results_eq, Sem.run_bind, Array.mapM_eq_mapM_toList, Sem.run_map, h1]
 refine ⟨if h : vs'.toArray.size = 1 then vs'.toArray[0] else .tuple vs'.toArray, rfl, ?_⟩
 cases h2 with
 | nil => exact VRel.of_tuple .nil
 | cons hv1 ht1 =>
  cases ht1 with
  | nil => simpa [tupV] using hv1
  | cons hv2 ht2 =>
   simp only [tupV]
   rw [dif_neg (by simp)]
   exact VRel.of_tuple (.cons hv1 (.cons hv2 ht2))
theorem leaves_sound {fn : Func} {tmps : Array Value} {R : Ending → World → Prop} : ∀ (ds : List Nat) (l : List Deferred) (φ : Loc) (M M' : Mem) (w : World), DRel φ ds l → Rep P idf φ M w → killAll M ds = some M' →
  (∀ w', Rep P idf φ M' w' → Stp φ M w φ M' w' → ∃ v, (results fn tmps).run P w' = .ok v w' ∧ R (.returned v) w') → LeavesInM Fence.wide 0 P fn tmps R l .returning w
 | [], l, φ, M, M', w, hd, h, hk, hf => by
  cases hd
  simp only [killAll, Option.some.injEq] at hk
  subst hk
  exact hf w h (Stp.refl _ _ _)
 | d :: ds, l, φ, M, M', w, hd, h, hk, hf => by
  cases hd with
  | cons _ c K hc ht =>
   simp only [killAll] at hk
   split at hk
   ·rename_i hg
    split at hk
    ·rename_i hb
     obtain ⟨o, o', g1, g2, g3⟩ := h.obj d c K hc
     rw [hg] at g1; cases g1
     cases g3
     obtain ⟨p1, p2⟩ := h.put hc hb (o := .dead) (o' := .deferred none) (by rw [hg]; simp) (.dead _)
     refine ⟨by simp, .inl ⟨c, _, rfl, run_takeDeferred g2, ?_⟩⟩
     exact leaves_sound ds _ φ _ M' _ ht p1 hk fun w' k1 k2 => hf w' k1 (p2.trans k2)
    ·cases hk
   ·cases hk
variable (P idf) in
def OracOK (E : Orac) : Prop := ∀ f args M r, E f args M = some r → okT r = true ∧ (∃ fn c, P.funcs[f]? = some fn ∧ fn.body = some c ∧ (fn.name == "runtime.NumGoroutine") = false) ∧
 ∀ φ w (args' : Array Value), Rep P idf φ M w → LRel φ args args'.toList → Calls P f args' w fun e w' => e = .returned r ∧ Below w.heap.size w w'
variable (P idf) in
def FunsOK (F : Funs) : Prop := ∀ f m, F f = some m → ∃ fn, P.funcs[f]? = some fn ∧ compF P idf fn = some m
theorem Stp.of_below {φ : Loc} {M : Mem} {w w' : World} (hb : Below w.heap.size w w') : Stp φ M w φ M w' :=
 ⟨fun _ _ h => h, fun b x h h' => by (rw [h] at h'; cases h'), fun b c K h h' => by (rw [h] at h'; cases h'), rfl, Nat.le_refl _, fun _ _ => rfl, fun c hc _ => hb.block c hc, hb.size, hb.os, hb.tape, hb.output⟩
theorem fold_rel {φ : Loc} : ∀ (ps : List Tmp) (args args' : List Value) (t t' : List Value), LRel φ args args' → LRel φ t t' →
  LRel φ ((ps.zip args).foldl (fun t p => t.set p.1 p.2) t) ((ps.zip args').foldl (fun t p => t.set p.1 p.2) t')
 | [], _, _, _, _, _, ht => ht
 | p :: ps, _, _, t, t', ha, ht => by
  cases ha with
  | nil => exact ht
  | cons hv hr => exact fold_rel ps _ _ _ _ hr (ht.set hv p)
theorem round_sound (hmo : P.follows .mixedOrders = true) (CO : CallOK P idf call) (CS : CallStep call) (ID : IdOK P idf) (n : Nat) {φ : Loc} {M M' : Mem} {w : World} (h : Rep P idf φ M w) {l l' K : Nat} (hl : φ l = some (l', K)) {args : List Value} {args' : Array Value} (ha : LRel φ args args'.toList) {v : Value}
  (hr : roundV call n l args M = some (v, M')) : ∃ f tmps assign body, (Instr.yield l' args').run P w = .ok (.round l' f tmps assign body) w ∧ RoundIn Fence.wide 0 P l' f tmps assign body w (Post P idf φ M w v M') := by
 unfold roundV at hr
 split at hr
 ·rename_i p0 tm ps as bd d hg
  split at hr
  ·rename_i hc
   obtain ⟨hlen, hbase⟩ := hc
   obtain ⟨o, o', g1, g2, g3⟩ := h.obj l l' K hl
   rw [hg] at g1; cases g1
   cases g3 with
   | loop _ _ _ _ _ _ _ rec d' K' z1 z2 z3 z4 z5 z6 z7 z8 z9 =>
    subst z5
    have hsz : args'.size = rec.params.size := by have := ha.length; simp at this hlen; omega
    refine ⟨rec.fn, _, rec.assign, rec.body, run_yield g2 hsz, ?_⟩
    refine roundIn_of_wpIn trivial ?_
    split at hr
    ·rename_i s1 e1
     refine code_sound hmo CO CS ID n rec.assign as z6 (some l) (some l') φ _ s1 .normal _ w _ e1 (.some l l' K hl) ?_ .nil h fun φ1 a1 w1 q1 q2 q3 q4 => ?_
     ·-- the temporaries of the round
      have hf := fold_rel (φ := φ) rec.params.toList args args'.toList tm rec.tmps.toList ha z4
      have e : ((rec.params.zip args').foldl (fun tmps x => tmps.setIfInBounds x.1 x.2) rec.tmps).toList = (rec.params.toList.zip args'.toList).foldl (fun t p => t.set p.1 p.2) rec.tmps.toList := by
       rw [← Array.foldl_toList, Array.toList_zip]
       generalize rec.params.toList.zip args'.toList = L
       generalize rec.tmps = T
       induction L generalizing T with
       | nil => rfl
       | cons p L ih => simp only [List.foldl_cons]; rw [ih]; simp
      exact e ▸ hf
     ·-- begun
      split at hr
      ·rename_i p1 tm1 ps1 as1 bd1 d1 hg1
       have hl1 := q4.ext _ _ hl
       obtain ⟨o1, o1', k1, k2, k3⟩ := q3.obj l l' K hl1
       rw [hg1] at k1; cases k1
       cases k3 with
       | loop _ _ _ _ _ _ _ rec1 d1' K1' y1 y2 y3 y4 y5 y6 y7 y8 y9 =>
        have hbase1 : s1.M.base ≤ l := by rw [q4.base]; exact hbase
        obtain ⟨b1, b2⟩ := q3.put hl1 hbase1 (o := .loop .busy p1 tm1 ps1 as1 bd1 d1) (o' := .loop { rec1 with state := .busy }) (by rw [hg1]; simp) (.loop _ _ _ _ _ _ _ _ d1' K1' rfl y2 y3 y4 y5 y6 y7 y8 y9)
        refine ⟨_, run_beginRound k2 y1, ?_⟩
        split at hr
        ·rename_i x s2 e2
         have st12 := q4.trans b2
         refine code_sound hmo CO CS ID n rec.body bd z7 (some l) (some l') φ1 _ s2 x a1 _ _ e2 (.some l l' K hl1) q1 q2 b1 fun φ2 a2 w2 c1 c2 c3 c4 => ?_
         split at hr
         ·rename_i st3 p3 tm2 ps2 as2 bd2 d2 hg2
          have hl2 := c4.ext _ _ hl1
          have hbase2 : s2.M.base ≤ l := by rw [c4.base]; exact hbase1
          have st := st12.trans c4
          obtain ⟨o2, o2', m1, m2, m3⟩ := c3.obj l l' K hl2
          rw [hg2] at m1; cases m1
          cases m3 with
          | loop _ _ _ _ _ _ _ rec2 d2' K2' x1 x2 x3 x4 x5 x6 x7 x8 x9 =>
           cases x with
           | normal =>
            simp only [Option.some.injEq, Prod.mk.injEq] at hr
            obtain ⟨rfl, rfl⟩ := hr
            obtain ⟨f1, f2⟩ := c3.put hl2 hbase2 (o := .loop .ready none tm2 ps2 as2 bd2 d2) (o' := .loop { rec2 with state := .ready, pending := none }) (by rw [hg2]; simp) (.loop _ _ _ _ _ _ _ _ d2' K2' rfl rfl (by simp) x4 x5 x6 x7 x8 x9)
            exact ⟨_, _, run_endRound none m2, φ2, _, rfl, .bool _, f1, st.trans f2⟩
           | exit id =>
            simp only [Option.some.injEq, Prod.mk.injEq] at hr
            obtain ⟨rfl, rfl⟩ := hr
            obtain ⟨f1, f2⟩ := c3.put hl2 hbase2 (o := .loop .done (some (.exit id)) tm2 ps2 as2 bd2 d2) (o' := .loop { rec2 with state := .done, pending := some (.exit id) }) (by rw [hg2]; simp) (.loop _ _ _ _ _ _ _ _ d2' K2' rfl rfl (by simp) x4 x5 x6 x7 x8 x9)
            exact ⟨_, _, run_endRound (some (.exit id)) m2, φ2, _, rfl, .bool _, f1, st.trans f2⟩
           | ret =>
            simp only [Option.some.injEq, Prod.mk.injEq] at hr
            obtain ⟨rfl, rfl⟩ := hr
            obtain ⟨f1, f2⟩ := c3.put hl2 hbase2 (o := .loop .done (some .ret) tm2 ps2 as2 bd2 d2) (o' := .loop { rec2 with state := .done, pending := some .ret }) (by rw [hg2]; simp) (.loop _ _ _ _ _ _ _ _ d2' K2' rfl rfl (by simp) x4 x5 x6 x7 x8 x9)
            exact ⟨_, _, run_endRound (some .ret) m2, φ2, _, rfl, .bool _, f1, st.trans f2⟩
         ·cases hr
        ·cases hr
      ·cases hr
    ·cases hr
  ·cases hr
 ·cases hr
theorem callN_sound (hmo : P.follows .mixedOrders = true) (ID : IdOK P idf) {F : Funs} {E : Orac} (hF : FunsOK P idf F) (hE : OracOK P idf E) : ∀ n, CallOK P idf (callN F E n)
 | 0 => fun φ M w v v' args args' r M' he => by simp [callN] at he
 | n + 1 => fun φ M w v v' args args' r M' he hv ha h => by
  have ih := callN_sound hmo ID hF hE n
  have CS := callN_step F E n
  simp only [callN] at he
  split at he
  ·rename_i f first cap
   cases hv with
   | func _ _ first' _ cap' hf1 hc1 hf2 hc2 =>
    left
    have hargs : LRel φ (first.toList ++ args ++ cap.toList) (first' ++ args' ++ cap').toList := by
     rw [Array.toList_append, Array.toList_append]
     exact ((LRel.of_arr hf1 hf2).append ha).append (LRel.of_arr hc1 hc2)
    split at he
    ·-- given beforehand
     rename_i q hq
     simp only [Option.some.injEq, Prod.mk.injEq] at he
     obtain ⟨rfl, rfl⟩ := he
     obtain ⟨k2, ⟨fn, c, k3, k4, k5⟩, k6⟩ := hE _ _ _ _ hq
     refine ⟨f, first', cap', rfl, run_call k3 k4 k5 _ w, ?_⟩
     refine callsIn_wide.2 ((k6 φ w _ h hargs).mono ?_)
     rintro e w' ⟨rfl, hb⟩
     exact ⟨φ, _, rfl, VRel.okT k2, h.keep (fun c hc => hb.block c hc), Stp.of_below hb⟩
    ·split at he
     ·rename_i m hm
      obtain ⟨fn, hfn, hcf⟩ := hF f m hm
      unfold compF at hcf
      split at hcf
      ·cases hcf
      ·rename_i hname
       simp only [Option.bind_eq_some_iff] at hcf
       obtain ⟨c, hb, mc, hmc, hcf⟩ := hcf
       obtain ⟨rs, hrs, rfl⟩ := map_some hcf
       have hname' : (fn.name == "runtime.NumGoroutine") = false := by simpa using hname
       refine ⟨f, first', cap', rfl, run_call hfn hb hname' _ w, ?_⟩
       have hlen := hargs.length
       have htm : LRel φ (first.toList ++ args ++ cap.toList ++ List.replicate (fn.ntmps - (first.toList ++ args ++ cap.toList).length) undef) ((first' ++ args' ++ cap') ++ Array.replicate (fn.ntmps - (first' ++ args' ++ cap').size) undef).toList := by
        rw [Array.toList_append, Array.toList_replicate]
        have : (first' ++ args' ++ cap').size = (first.toList ++ args ++ cap.toList).length := by rw [hlen]; simp
        rw [this]
        exact hargs.append (LRel.replicate VRel.undef _)
       have fin : ∀ (s : St) (x : XE), exec (callN F E n) n none mc ⟨first.toList ++ args ++ cap.toList ++ List.replicate (fn.ntmps - (first.toList ++ args ++ cap.toList).length) undef, [], M⟩ = some (x, s) → (x = .normal ∨ x = .ret) → retV ⟨fn.ntmps, rs, mc⟩ s = some (r, M') →
         CallsIn Fence.wide 0 P f (first' ++ args' ++ cap') w (Post P idf φ M w r M') := by
        intro s x hex hx hret
        refine callsIn_of_wp_marks hfn hb trivial ?_
        refine code_sound hmo ih CS ID n c mc hmc none none φ _ s x _ w _ hex .none htm .nil h fun φ' a' w' g1 g2 g3 g4 => ?_
        unfold retV at hret
        simp only [Option.bind_eq_some_iff] at hret
        obtain ⟨M2, r1, r2⟩ := hret
        obtain ⟨vs, r3, r4⟩ := map_some r2
        cases r4
        have lv : LeavesInM Fence.wide 0 P fn a'.tmps (Post P idf φ M w (tupV vs) M') a'.defers .returning w' := by
         refine leaves_sound s.ds a'.defers φ' s.M M' w' g2 g3 r1 fun w2 k1 k2 => ?_
         obtain ⟨r', u1, u2⟩ := res_sound k1 g1 hrs r3
         exact ⟨r', u1, φ', r', rfl, u2, k1, g4.trans k2⟩
        rcases hx with rfl | rfl
        ·exact lv
        ·exact lv
       split at he
       ·rename_i s hex; exact fin s .normal hex (.inl rfl) he
       ·rename_i s hex; exact fin s .ret hex (.inr rfl) he
       ·cases he
     ·cases he
  ·rename_i l a b
   cases hv with
   | yield _ l' K hl =>
    right
    obtain ⟨f, tmps, as, bd, h1, h2⟩ := round_sound hmo ih CS ID n h hl ha he
    exact ⟨l', f, tmps, as, bd, rfl, h1, h2⟩
  ·cases he
theorem run_pure (hmo : P.follows .mixedOrders = true) (ID : IdOK P idf) {F : Funs} {E : Orac} (hF : FunsOK P idf F) (hE : OracOK P idf E) {n : Nat} {f : FuncId} {args : List Value} {r : Value} (hr : okT r = true) {M M' : Mem} (hbase : M.base = M.size)
  (he : callN F E n (.func (.func f) #[] #[]) args M = some (r, M')) {φ : Loc} {w : World} (hrep : Rep P idf φ M w) {args' : Array Value} (hal : LRel φ args args'.toList) : Calls P f args' w fun e w' => e = .returned r ∧ Below w.heap.size w w' := by
 rcases callN_sound hmo ID hF hE n _ _ w _ (.func (.func f) #[] #[]) args args' r M' he (.func f #[] #[] #[] #[] rfl rfl (fun i x y h => by simp at h) (fun i x y h => by simp at h)) hal hrep with ⟨f', first, cap, hfe, _, hc⟩ | ⟨l, f', tm, as, bd, hfe, _⟩
 ·cases hfe
  have hc' := callsIn_wide.1 hc
  simp only [Array.empty_append, Array.append_empty] at hc'
  refine hc'.mono ?_
  rintro e w' ⟨φ', r', rfl, h1, h2, h3⟩
  refine ⟨?_, ⟨h3.os, h3.tape, h3.output, h3.hsize, fun k hk => h3.frame k hk fun b K h => by have := (hrep.lt h).1; omega⟩⟩
  have hrr : r' = r := by
   unfold okT at hr
   split at hr
   ·rename_i vs
    cases h1 with
    | tuple _ vs' hs hi =>
     congr 1
     have := (LRel.of_arr hs hi).okC_eq hr
     exact Array.ext' this
   ·exact h1.okC_eq hr
  rw [hrr]
 ·cases hfe
theorem LRel.okC {φ : Loc} : ∀ l : List Value, l.all Run.okC = true → LRel φ l l
 | [], _ => .nil
 | x :: l, h => by
  simp only [List.all_cons, Bool.and_eq_true] at h
  exact .cons (VRel.okC h.1) (LRel.okC l h.2)
theorem run_closed (hmo : P.follows .mixedOrders = true) (ID : IdOK P idf) {F : Funs} {E : Orac} (hF : FunsOK P idf F) (hE : OracOK P idf E) {n : Nat} {f : FuncId} {args : List Value} (hargs : args.all Run.okC = true) {r : Value} (hr : okT r = true) {M' : Mem}
  (he : callN F E n (.func (.func f) #[] #[]) args ⟨0, 0, .e⟩ = some (r, M')) (w : World) : Calls P f args.toArray w fun e w' => e = .returned r ∧ Below w.heap.size w w' :=
 run_pure hmo ID hF hE hr rfl he (φ := fun _ => none) ⟨Nat.le_refl _, fun b c K h => by simp at h, fun b₁ b₂ c K₁ K₂ h => by simp at h⟩ (by simpa using LRel.okC args hargs)
end
end Go.Proofs.Ytifemfnjoobiiaa.Run
