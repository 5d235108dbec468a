/- Regions whose order is drawn. No statement of the program's is proved here. -/
import Derived.Test.YtifemfnjoobiiaaRunL
namespace Go.Proofs.Ytifemfnjoobiiaa.Run
open Go Go.RowKit
set_option linter.unusedVariables false
set_option linter.unusedSimpArgs false
section
variable {P : Program} {idf : FuncId → Bool}
theorem runOps_trace {call : CallF} : ∀ {l : List MOper} {t t' : List Value} {M M' : Mem}, runOps call l t M = some (t', M') →
  ∃ (tS : Nat → List Value) (MS : Nat → Mem) (vS : Nat → Value), tS 0 = t ∧ MS 0 = M ∧ tS l.length = t' ∧ MS l.length = M' ∧ ∀ i m, l[i]? = some m → stepQ call m (tS i) (MS i) = some (vS i, MS (i + 1)) ∧ tS (i + 1) = putT (tS i) m.dst (vS i)
 | [], t, t', M, M', h => by
  simp only [runOps, Option.some.injEq, Prod.mk.injEq] at h
  exact ⟨fun _ => t, fun _ => M, fun _ => undef, rfl, rfl, h.1, h.2, fun i m hm => by simp at hm⟩
 | o :: os, t, t', M, M', h => by
  simp only [runOps] at h
  split at h
  ·rename_i v M2 h1
   obtain ⟨tS, MS, vS, e1, e2, e3, e4, e5⟩ := runOps_trace h
   refine ⟨fun i => match i with | 0 => t | i + 1 => tS i, fun i => match i with | 0 => M | i + 1 => MS i, fun i => match i with | 0 => v | i + 1 => vS i, rfl, rfl, e3, e4, ?_⟩
   intro i m hm
   cases i with
   | zero =>
    simp at hm; subst hm
    simp only [e1, e2]
    exact ⟨h1, trivial⟩
   | succ i => exact e5 i m (by simpa using hm)
  ·cases h
theorem mapM_idx {α β : Type} {f : α → Option β} : ∀ {l : List α} {r : List β}, l.mapM f = some r → l.length = r.length ∧ ∀ (i : Nat) (x : α), l[i]? = some x → ∃ y, r[i]? = some y ∧ f x = some y
 | [], r, h => by simp at h; subst h; exact ⟨rfl, fun i x h => by simp at h⟩
 | x :: l, r, h => by
  simp only [List.mapM_cons, Option.bind_eq_bind, Option.bind_eq_some_iff, Option.pure_def, Option.some.injEq] at h
  obtain ⟨y, hy, r', hr, rfl⟩ := h
  obtain ⟨h1, h2⟩ := mapM_idx hr
  refine ⟨by simp [h1], fun i z hz => ?_⟩
  cases i with
  | zero => simp at hz; subst hz; exact ⟨y, rfl, hy⟩
  | succ i => simpa using h2 i z (by simpa using hz)
theorem foldl_bits (acc : List Nat) (j : Nat) : ∀ (l : List Edge) (s : Nat), (l.foldl (fun s e => if Region.binds .any e then s ||| 2 ^ e.on ||| acc.getD e.on 0 else s) s).testBit j = true →
  s.testBit j = true ∨ ∃ e ∈ l, Region.binds .any e = true ∧ (e.on = j ∨ (acc.getD e.on 0).testBit j = true)
 | [], s, h => .inl h
 | e :: l, s, h => by
  simp only [List.foldl_cons] at h
  rcases foldl_bits acc j l _ h with h1 | ⟨e', he, hb, hc⟩
  ·split at h1
   ·rename_i hb
    simp only [Nat.testBit_or, Bool.or_eq_true, Nat.testBit_two_pow, decide_eq_true_eq] at h1
    rcases h1 with (h1 | h1) | h1
    ·exact .inl h1
    ·exact .inr ⟨e, by simp, hb, .inl h1⟩
    ·exact .inr ⟨e, by simp, hb, .inr h1⟩
   ·exact .inl h1
  ·exact .inr ⟨e', by simp [he], hb, hc⟩
theorem aheads_spec : ∀ (os : List Oper) (acc : List Nat), (∀ k, k < acc.length → (aheads acc os).getD k 0 = acc.getD k 0) ∧
  ∀ (k : Nat) (o : Oper), os[k]? = some o → (∀ e ∈ o.after.toList, Region.binds .any e = true → e.on < acc.length + k) → ∀ j, ((aheads acc os).getD (acc.length + k) 0).testBit j = true →
   ∃ e ∈ o.after.toList, Region.binds .any e = true ∧ (e.on = j ∨ ((aheads acc os).getD e.on 0).testBit j = true)
 | [], acc => ⟨fun _ _ => rfl, fun k o h => by simp at h⟩
 | o :: os, acc => by
  obtain ⟨h1, h2⟩ := aheads_spec os (acc ++ [o.after.toList.foldl (fun s e => if Region.binds .any e then s ||| 2 ^ e.on ||| acc.getD e.on 0 else s) 0])
  have old : ∀ k, k < acc.length → (aheads acc (o :: os)).getD k 0 = acc.getD k 0 := by
   intro k hk
   show (aheads (acc ++ [_]) os).getD k 0 = _
   rw [h1 k (by simp; omega)]
   simp [List.getD, List.getElem?_append_left hk]
  refine ⟨old, fun k p hp hlt j hj => ?_⟩
  cases k with
  | zero =>
   simp only [List.getElem?_cons_zero, Option.some.injEq] at hp
   subst hp
   simp only [Nat.add_zero] at hj hlt
   have e : (aheads acc (o :: os)).getD acc.length 0 = o.after.toList.foldl (fun s e => if Region.binds .any e then s ||| 2 ^ e.on ||| acc.getD e.on 0 else s) 0 := by
    show (aheads (acc ++ [_]) os).getD acc.length 0 = _
    rw [h1 acc.length (by simp)]
    simp [List.getD]
   rw [e] at hj
   rcases foldl_bits acc j _ _ hj with h0 | ⟨e', he, hb, hc⟩
   ·simp at h0
   ·exact ⟨e', he, hb, hc.imp id fun hc => by rw [old _ (hlt e' he hb)]; exact hc⟩
  | succ k =>
   have hlen : (acc ++ [o.after.toList.foldl (fun s e => if Region.binds .any e then s ||| 2 ^ e.on ||| acc.getD e.on 0 else s) 0]).length = acc.length + 1 := by simp
   have := h2 k p (by simpa using hp) (fun e he hb => by rw [hlen]; have := hlt e he hb; omega) j (by
    rw [hlen, show acc.length + 1 + k = acc.length + (k + 1) by omega]; exact hj)
   exact this
def Closed (ops : Array Oper) (S : Nat → Prop) : Prop := ∀ i o, ops[i]? = some o → S i → ∀ e ∈ o.after.toList, Region.binds .any e = true → S e.on
theorem ahead_in {ops : Array Oper} {S : Nat → Prop} (hS : Closed ops S) (hback : ∀ i o, ops[i]? = some o → ∀ e ∈ o.after.toList, Region.binds .any e = true → e.on < i) (j : Nat) : ∀ (i : Nat) (o : Oper), ops[i]? = some o →
  (∀ e ∈ o.after.toList, Region.binds .any e = true → S e.on) → ((aheads [] ops.toList).getD i 0).testBit j = true → S j := by
 intro i
 induction i using Nat.strongRecOn with
 | _ i ih =>
  intro o ho hall hj
  obtain ⟨e, he, hb, hc⟩ := (aheads_spec ops.toList []).2 i o (by simpa using ho) (fun e he hb => by simpa using hback i o ho e he hb) j (by simpa using hj)
  rcases hc with rfl | hc
  ·exact hall e he hb
  ·have hlt := hback i o ho e he hb
   have hi := (Array.getElem?_eq_some_iff.1 ho).1
   have hoe : ops[e.on]? = some ops[e.on] := by simp [show e.on < ops.size by omega]
   exact ih e.on hlt _ hoe (fun e' he' hb' => hS e.on _ hoe (hall e he hb) e' he' hb') hc
theorem hasEdge_spec {o : Oper} {j : Nat} (h : hasEdge o j = true) : ∃ e ∈ o.after.toList, Region.binds .any e = true ∧ e.on = j := by
 unfold hasEdge at h
 obtain ⟨e, he, hc⟩ := List.any_eq_true.1 h
 simp only [Bool.and_eq_true, beq_iff_eq] at hc
 exact ⟨e, he, hc.2, hc.1⟩
structure OrderOk (ops : Array Oper) : Prop where
 back : ∀ (i : Nat) (o : Oper), ops[i]? = some o → ∀ e ∈ o.after.toList, Region.binds .any e = true → e.on < i
 dst : ∀ (i j : Nat) (o p : Oper) (d : Tmp), ops[i]? = some o → ops[j]? = some p → o.dst = some d → p.dst = some d → i = j
 tmp : ∀ (i : Nat) (o : Oper) (t : Tmp), ops[i]? = some o → .tmp t ∈ o.op.operands.toList → ∀ (j : Nat) (p : Oper), ops[j]? = some p → p.dst = some t → hasEdge o j = true ∨ hasEdge p i = true
 guard : ∀ (i : Nat) (o : Oper) (j : Nat) (b : Bool), ops[i]? = some o → o.guard = some (j, b) → hasEdge o j = true
theorem orderOk_spec {ops : Array Oper} (h : orderOk ops.toList = true) : OrderOk ops := by
 unfold orderOk at h
 simp only [Bool.and_eq_true, List.all_eq_true] at h
 obtain ⟨h1, h2⟩ := h
 have mem : ∀ (i : Nat) (o : Oper), ops[i]? = some o → (o, i) ∈ ops.toList.zipIdx := by
  intro i o ho
  rw [List.mk_mem_zipIdx_iff_getElem?]
  simpa using ho
 refine ⟨fun i o ho e he hb => ?_, fun i j o p d ho hp hd hd' => ?_, fun i o t ho ht j p hp hd => ?_, fun i o j b ho hg => ?_⟩
 ·have := (h2 (o, i) (mem i o ho)).1.1 e he
  simpa [hb] using this
 ·have := h1 (o, i) (mem i o ho) (p, j) (mem j p hp)
  simpa [hd, hd'] using this
 ·have := (h2 (o, i) (mem i o ho)).2 _ ht
  simp only [tmpOk, List.all_eq_true] at this
  have := this (p, j) (mem j p hp)
  simpa [hd] using this
 ·have := (h2 (o, i) (mem i o ho)).1.2
  simpa [hg] using this
theorem impure_spec : ∀ (ms : List MOper) (k i : Nat) (m : MOper), ms[i]? = some m → pureOp m.op = false → k + i ∈ impure k ms
 | [], k, i, m, h, _ => by simp at h
 | x :: ms, k, i, m, h, hp => by
  cases i with
  | zero =>
   simp at h; subst h
   simp [impure, hp]
  | succ i =>
   have := impure_spec ms (k + 1) i m (by simpa using h) hp
   rw [show k + (i + 1) = k + 1 + i by omega]
   simp only [impure]
   split
   ·exact this
   ·exact List.mem_cons_of_mem _ this
theorem marked_spec (ah im : List Nat) : ∀ (ms : List MOper) (k i : Nat) (m : MOper), ms[i]? = some m → (marked ah im k ms)[i]? = some { m with q := if pureOp m.op then 0 else if aloneAt ah im (k + i) then 2 else 1 }
 | [], k, i, m, h => by simp at h
 | x :: ms, k, i, m, h => by
  cases i with
  | zero => simp at h; subst h; simp [marked]
  | succ i =>
   have := marked_spec ah im ms (k + 1) i m (by simpa using h)
   simp only [marked, List.getElem?_cons_succ]
   rw [this, show k + 1 + i = k + (i + 1) by omega]
theorem marked_length (ah im : List Nat) : ∀ (ms : List MOper) (k : Nat), (marked ah im k ms).length = ms.length
 | [], _ => rfl
 | x :: ms, k => by simp [marked, marked_length ah im ms (k + 1)]
theorem mark3_length : ∀ ms : List MOper, (mark3 ms).length = ms.length
 | [] => rfl
 | m :: ms => by
  unfold mark3
  split
  ·simp [mark3_length ms]
  ·split
   ·rfl
   ·simp [mark3_length ms]
theorem mark3_spec : ∀ (ms : List MOper) (i : Nat) (m : MOper), ms[i]? = some m → ∃ q, (mark3 ms)[i]? = some { m with q := q } ∧ (q = m.q ∨ (m.q = 1 ∧ q = 3 ∧ isApp m.op = true))
 | [], i, m, h => by simp at h
 | x :: ms, i, m, h => by
  unfold mark3
  split
  ·cases i with
   | zero => simp at h; subst h; exact ⟨x.q, by simp, .inl rfl⟩
   | succ i => simpa using mark3_spec ms i m (by simpa using h)
  ·split
   ·rename_i hq
    cases i with
    | zero =>
     simp at h; subst h
     rw [Bool.and_eq_true] at hq
     exact ⟨3, by simp, .inr ⟨by simpa using hq.1, rfl, hq.2⟩⟩
    | succ i => exact ⟨m.q, by simpa using h, .inl rfl⟩
   ·cases i with
    | zero => simp at h; subst h; exact ⟨x.q, by simp, .inl rfl⟩
    | succ i => simpa using mark3_spec ms i m (by simpa using h)
theorem mark3_one : ∀ (ms : List MOper), (∀ m ∈ ms, m.q ≠ 3) → ∀ (i j : Nat) (a b : MOper), (mark3 ms)[i]? = some a → a.q = 3 → (mark3 ms)[j]? = some b → b.q = 3 → i = j
 | [], _, i, j, a, b, h, _, _, _ => by simp [mark3] at h
 | x :: ms, h3, i, j, a, b, hi, ha, hj, hb => by
  have hx : x.q ≠ 3 := h3 x List.mem_cons_self
  have ih := mark3_one ms fun m hm => h3 m (List.mem_cons_of_mem _ hm)
  unfold mark3 at hi hj
  split at hi
  ·rename_i hc
   rw [if_pos hc] at hj
   cases i with
   | zero => simp at hi; subst hi; exact absurd ha hx
   | succ i =>
    cases j with
    | zero => simp at hj; subst hj; exact absurd hb hx
    | succ j => rw [ih i j a b (by simpa using hi) ha (by simpa using hj) hb]
  ·rename_i hc
   rw [if_neg hc] at hj
   split at hi
   ·rename_i hq
    rw [if_pos hq] at hj
    cases i with
    | zero =>
     cases j with
     | zero => rfl
     | succ j => exact absurd hb (h3 b (List.mem_cons_of_mem _ (List.mem_of_getElem? (by simpa using hj))))
    | succ i => exact absurd ha (h3 a (List.mem_cons_of_mem _ (List.mem_of_getElem? (by simpa using hi))))
   ·rename_i hq
    rw [if_neg hq] at hj
    cases i with
    | zero => simp at hi; subst hi; exact absurd ha hx
    | succ i =>
     cases j with
     | zero => simp at hj; subst hj; exact absurd hb hx
     | succ j => rw [ih i j a b (by simpa using hi) ha (by simpa using hj) hb]
def Listed (listed : Array Bool) (i : Nat) : Prop := listed.getD i false = true
def Loc.upto (φ : Loc) (n : Nat) : Loc := fun b => if b < n then φ b else none
theorem Loc.upto_sub {φ : Loc} {n : Nat} : ∀ b x, φ.upto n b = some x → φ b = some x := by
 intro b x h; unfold Loc.upto at h; split at h
 ·exact h
 ·cases h
theorem Loc.upto_lt {φ : Loc} {n b : Nat} {x : Nat × Nat} (h : φ.upto n b = some x) : b < n := by
 unfold Loc.upto at h; split at h
 ·assumption
 ·cases h
theorem Loc.upto_le {φ φ' : Loc} {n n' : Nat} (hn : n ≤ n') (he : ∀ b x, φ b = some x → φ' b = some x) : ∀ b x, φ.upto n b = some x → φ'.upto n' b = some x := by
 intro b x h; unfold Loc.upto at h ⊢; split at h
 ·rename_i hb; rw [if_pos (by omega)]; exact he _ _ h
 ·cases h
theorem Loc.upto_of {φ : Loc} {n : Nat} {b : Nat} {x : Nat × Nat} (h : φ b = some x) (hb : b < n) : φ.upto n b = some x := by unfold Loc.upto; rw [if_pos hb]; exact h
theorem Loc.upto_eq {φ : Loc} {n : Nat} (h : ∀ b x, φ b = some x → b < n) : φ.upto n = φ := by
 funext b; unfold Loc.upto; split
 ·rfl
 ·cases hb : φ b with
  | none => rfl
  | some x => exact absurd (h b x hb) (by assumption)
structure RInv (P : Program) (idf : FuncId → Bool) (ops : Array Oper) (ml : List MOper) (tS : Nat → List Value) (MS : Nat → Mem) (vS : Nat → Value) (φ₀ : Loc) (w₀ : World) (ds : List Deferred) (listed : Array Bool) (a : Act) (w : World) (φ : Loc) (L K : Nat) : Prop where
 size : listed.size = ops.size
 closed : Closed ops (Listed listed)
 kle : K ≤ ops.size
 lle : L ≤ K
 lw : L = 0 ∨ ∃ (m : MOper), ml[L - 1]? = some m ∧ m.q = 2 ∧ Listed listed (L - 1)
 nowr : ∀ (i : Nat) (m : MOper), L ≤ i → i < K → ml[i]? = some m → m.q ≠ 2
 kdone : ∀ (i : Nat) (m : MOper), i < K → ml[i]? = some m → m.q = 2 → Listed listed i
 knot : ∀ (i : Nat) (m : MOper), K ≤ i → ml[i]? = some m → m.q = 2 → ¬ Listed listed i
 kW : K < ops.size → ∃ (m : MOper), ml[K]? = some m ∧ m.q = 2
 below : ∀ (i : Nat) (m : MOper), ml[i]? = some m → pureOp m.op = false → Listed listed i → i < K
 rep : ∀ i, L ≤ i → i ≤ K → Rep P idf (φ.upto (MS i).size) (MS i) w
 stp : Stp φ₀ (MS 0) w₀ φ (MS K) w
 dom : ∀ b x, φ b = some x → φ₀ b = none → ∃ j, Listed listed j ∧ (MS j).size ≤ b ∧ b < (MS (j + 1)).size
 sep : (∀ (j : Nat) (m : MOper), ml[j]? = some m → m.q = 3 → killOp m (tS j) = true → ¬ Listed listed j) → ∀ j₁ j₂ b₁ b₂ c K₁ K₂, L ≤ j₁ → j₁ ≤ K → L ≤ j₂ → j₂ ≤ K → φ.upto (MS j₁).size b₁ = some (c, K₁) → φ.upto (MS j₂).size b₂ = some (c, K₂) → (MS j₁).get b₁ ≠ some .dead → (MS j₂).get b₂ ≠ some .dead → b₁ = b₂
 tsize : a.tmps.size = (tS 0).length
 done : ∀ (j : Nat) (o : Oper) (d : Tmp), ops[j]? = some o → o.dst = some d → Listed listed j → d < a.tmps.size → ∃ y, a.tmps[d]? = some y ∧ VRel (φ.upto (MS (j + 1)).size) (vS j) y
 todo : ∀ (d : Nat), d < a.tmps.size → (∀ (j : Nat) (o : Oper), ops[j]? = some o → o.dst = some d → ¬ Listed listed j) → GRel φ₀ (tS 0)[d]? a.tmps[d]?
 ds : a.defers = ds
theorem putT_get {t : List Value} {d : Option Tmp} {v : Value} {k : Nat} : (putT t d v)[k]? = if d = some k ∧ k < t.length then some v else t[k]? := by
 cases d with
 | none => simp [putT]
 | some d =>
  simp only [putT, List.getElem?_set]
  by_cases e : d = k
  ·subst e
   by_cases hl : d < t.length
   ·simp [hl]
   ·simp [hl]
  ·simp [e]
theorem put_get {a : Act} {d : Option Tmp} {v : Value} {k : Nat} : (a.put d v).tmps[k]? = if d = some k ∧ k < a.tmps.size then some v else a.tmps[k]? := by
 cases d with
 | none => simp [Act.put]
 | some d =>
  simp only [Act.put, Array.getElem?_setIfInBounds]
  by_cases e : d = k
  ·subst e
   by_cases hl : d < a.tmps.size
   ·simp [hl]
   ·simp [hl]
  ·simp [e]
theorem put_size {a : Act} {d : Option Tmp} {v : Value} : (a.put d v).tmps.size = a.tmps.size := by
 cases d <;> simp [Act.put]
theorem GRel.mono {φ φ' : Loc} (he : ∀ b x, φ b = Option.some x → φ' b = Option.some x) {x y : Option Value} (h : GRel φ x y) : GRel φ' x y := by
 cases h with
 | none => exact .none
 | some h => exact .some (h.mono he)
theorem tS_get {ops : Array Oper} {ml : List MOper} (hO : OrderOk ops) (hml : ∀ (i : Nat) o, ops[i]? = some o → ∃ m, ml[i]? = some m ∧ m.dst = o.dst) (hlen : ml.length = ops.size) {tS : Nat → List Value} {vS : Nat → Value}
  (hstep : ∀ i m, ml[i]? = some m → tS (i + 1) = putT (tS i) m.dst (vS i)) (k : Nat) : ∀ n, n ≤ ops.size → (tS n).length = (tS 0).length ∧
   ((∃ j o, j < n ∧ ops[j]? = some o ∧ o.dst = some k ∧ (k < (tS 0).length → (tS n)[k]? = some (vS j))) ∨ ((∀ j o, j < n → ops[j]? = some o → o.dst ≠ some k) ∧ (tS n)[k]? = (tS 0)[k]?))
 | 0, _ => ⟨rfl, .inr ⟨fun j o h => by omega, rfl⟩⟩
 | n + 1, hn => by
  obtain ⟨h1, h2⟩ := tS_get hO hml hlen hstep k n (by omega)
  have ho : ops[n]? = some ops[n] := by simp [show n < ops.size by omega]
  obtain ⟨m, hm, hd⟩ := hml n _ ho
  have hs := hstep n m hm
  refine ⟨by rw [hs]; unfold putT; cases m.dst <;> simp [h1], ?_⟩
  rw [hs]
  by_cases hdk : m.dst = some k
  ·refine .inl ⟨n, _, Nat.lt_succ_self _, ho, hd ▸ hdk, fun hk => ?_⟩
   rw [putT_get, if_pos ⟨hdk, by omega⟩]
  ·rw [putT_get, if_neg (by rintro ⟨h, _⟩; exact hdk h)]
   rcases h2 with ⟨j, o, hj, hoj, hdj, hv⟩ | ⟨hnone, hv⟩
   ·exact .inl ⟨j, o, by omega, hoj, hdj, hv⟩
   ·refine .inr ⟨fun j o hj hoj hdj => ?_, hv⟩
    by_cases e : j = n
    ·subst e
     rw [ho] at hoj; cases hoj
     exact hdk (hd.trans hdj)
    ·exact hnone j o (by omega) hoj hdj
section
variable {call : CallF} {ops : Array Oper} {ml : List MOper} {tS : Nat → List Value} {MS : Nat → Mem} {vS : Nat → Value}
def KillIn (ml : List MOper) (tS : Nat → List Value) (i n : Nat) : Prop := ∃ (j : Nat) (m : MOper), i ≤ j ∧ j < n ∧ ml[j]? = some m ∧ m.q = 3 ∧ killOp m (tS j) = true
theorem MS_same (CS : CallStep call) (hb0 : (MS 0).base ≤ (MS 0).size) (htr : ∀ i m, ml[i]? = some m → stepQ call m (tS i) (MS i) = some (vS i, MS (i + 1)) ∧ tS (i + 1) = putT (tS i) m.dst (vS i))
  (hpure : ∀ (i : Nat) (m : MOper), ml[i]? = some m → m.q = 0 → pureOp m.op = true) (hq : ∀ (i : Nat) (m : MOper), ml[i]? = some m → m.q = 0 ∨ m.q = 1 ∨ m.q = 2 ∨ m.q = 3) : ∀ n, n ≤ ml.length → MStep (MS 0) (MS n) ∧
   ∀ i, i ≤ n → (MS i).size ≤ (MS n).size ∧ ((∀ j m, i ≤ j → j < n → ml[j]? = some m → m.q ≠ 2) → ∀ b, b < (MS i).size → (MS n).get b = (MS i).get b ∨ ((MS n).get b = some .dead ∧ KillIn ml tS i n))
 | 0, _ => ⟨.refl _, fun i hi => by obtain rfl : i = 0 := by omega
                                    exact ⟨Nat.le_refl _, fun _ _ _ => .inl rfl⟩⟩
 | n + 1, hn => by
  obtain ⟨h1, h2⟩ := MS_same CS hb0 htr hpure hq n (by omega)
  have hm : ml[n]? = some ml[n] := by simp
  obtain ⟨hst, _⟩ := htr n _ hm
  have hs := stepQ_step CS (h1.ok hb0) hst
  refine ⟨h1.trans hs, fun i hi => ?_⟩
  by_cases e : i = n + 1
  ·subst e; exact ⟨Nat.le_refl _, fun _ _ _ => .inl rfl⟩
  ·obtain ⟨g1, g2⟩ := h2 i (by omega)
   refine ⟨Nat.le_trans g1 hs.size, fun hno b hb => ?_⟩
   have g3 := g2 (fun j m hj hjn => hno j m hj (by omega)) b hb
   have hnq := hno n _ (by omega) (Nat.lt_succ_self _) hm
   have more : KillIn ml tS i n → KillIn ml tS i (n + 1) := fun ⟨j, m, k1, k2, k3⟩ => ⟨j, m, k1, by omega, k3⟩
   have keep : (MS (n + 1)).get b = (MS n).get b → (MS (n + 1)).get b = (MS i).get b ∨ ((MS (n + 1)).get b = some .dead ∧ KillIn ml tS i (n + 1)) := fun e => by
    rw [e]
    rcases g3 with g3 | ⟨g3, g4⟩
    ·exact .inl g3
    ·exact .inr ⟨g3, more g4⟩
   rcases hq n _ hm with h0 | h0 | h0 | h0
   ·obtain ⟨e1, _⟩ := stepQ_pure h0 (hpure n _ hm h0) hst
    exact keep (by rw [e1])
   ·obtain ⟨e1, _⟩ := stepQ_quiet CS (.inl h0) hst
    exact keep (e1 b (by omega))
   ·exact absurd h0 hnq
   ·cases hk : killOp ml[n] (tS n) with
    | false =>
     obtain ⟨e1, _⟩ := stepQ_quiet CS (.inr ⟨h0, hk⟩) hst
     exact keep (e1 b (by omega))
    | true =>
     obtain ⟨_, bk, c, ty, _, a2, _, ⟨x, a4⟩, _⟩ := stepQ_kill h0 hk hst
     by_cases hbk : b = bk
     ·refine .inr ⟨?_, n, _, by omega, Nat.lt_succ_self _, hm, h0, hk⟩
      rw [a4, Mem.get_push, if_neg (by show ¬ b = (MS n).size; omega), Mem.get_set _ _ _ a2, if_pos hbk]
     ·refine keep ?_
      rw [a4, Mem.get_push, if_neg (by show ¬ b = (MS n).size; omega), Mem.get_set _ _ _ a2, if_neg hbk]
end
def deadMem : Nat → Mem
 | 0 => ⟨0, 0, .e⟩
 | n + 1 => (deadMem n).push .dead
theorem deadMem_size : ∀ n, (deadMem n).size = n
 | 0 => rfl
 | n + 1 => by simp [deadMem, deadMem_size n]
theorem deadMem_base : ∀ n, (deadMem n).base = 0
 | 0 => rfl
 | n + 1 => by simp [deadMem, deadMem_base n]
theorem deadMem_get : ∀ n b, b < n → (deadMem n).get b = some .dead
 | n + 1, b, h => by
  rw [deadMem, Mem.get_push, deadMem_size]
  split
  ·rfl
  ·exact deadMem_get n b (by omega)
theorem Rep.dead {φ ψ : Loc} {M : Mem} {w : World} (h : Rep P idf φ M w) (hs : ∀ b x, ψ b = some x → φ b = some x) : Rep P idf ψ (deadMem M.size) w :=
 ⟨by rw [deadMem_base]; exact Nat.zero_le _, fun b c K hb => by
  have hb' := hs _ _ hb
  obtain ⟨o, o', h1, h2, h3⟩ := h.obj b c K hb'
  exact ⟨.dead, o', deadMem_get _ _ (Mem.lt_of_get h1), h2, .dead _⟩, fun b₁ b₂ c K₁ K₂ h1 h2 l1 l2 => by
  exact absurd (deadMem_get _ _ (h.lt (hs _ _ h1)).1) l1⟩
theorem next_w (n : Nat) (W : Nat → Prop) : ∀ d k, k + d = n → ∃ K, k ≤ K ∧ K ≤ n ∧ (∀ i, k ≤ i → i < K → ¬ W i) ∧ (K < n → W K)
 | 0, k, h => ⟨k, Nat.le_refl _, by omega, fun i _ _ => by omega, fun _ => by omega⟩
 | d + 1, k, h => by
  by_cases hw : W k
  ·exact ⟨k, Nat.le_refl _, by omega, fun i _ _ => by omega, fun _ => hw⟩
  ·obtain ⟨K, h1, h2, h3, h4⟩ := next_w n W d (k + 1) (by omega)
   refine ⟨K, by omega, h2, fun i hi hk => ?_, h4⟩
   by_cases e : i = k
   ·subst e; exact hw
   ·exact h3 i (by omega) hk
theorem listed_set {listed : Array Bool} {i : Nat} (hi : i < listed.size) (j : Nat) : Listed (listed.setIfInBounds i true) j ↔ j = i ∨ Listed listed j := by
 unfold Listed
 by_cases e : i = j
 ·subst e; simp [hi]
 ·rw [getD_set_ne _ e]
  constructor
  ·exact .inr
  ·rintro (h | h)
   ·exact absurd h.symm e
   ·exact h
end
end Go.Proofs.Ytifemfnjoobiiaa.Run
