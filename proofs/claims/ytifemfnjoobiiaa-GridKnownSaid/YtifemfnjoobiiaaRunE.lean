/- Each operation of the program does what this session's small operation says: reckoning, places, slices. No statement of the program's is proved here. -/
import Derived.Test.YtifemfnjoobiiaaRunD
namespace Go.Proofs.Ytifemfnjoobiiaa.Run
open Go Go.RowKit
set_option linter.unusedVariables false
set_option linter.unusedSimpArgs false
section
variable {P : Program} {idf : FuncId → Bool}
theorem eqGuard_plain {op : BinOp} {t : TypeId} {xo yo : Operand} {x y : Value} (h : ∀ a b, x = .agg a → y = .agg b → False) (h' : x ≠ .nilIface) (w : World) : (eqGuard op t xo yo x y).run P w = .ok () w := by
 unfold eqGuard
 cases x <;> cases y <;> first | (exact absurd rfl h') | (exact (h _ _ rfl rfl).elim) | (cases op <;> simp)
inductive KdInfo (P : Program) (t : TypeId) : Nat → List Nat → Prop
 | zero : KdInfo P t 0 []
 | bool (h : P.underlying t = some .bool) : KdInfo P t 1 []
 | agg (l : List Nat) (h : sigOf P t = some (true, l)) (hg : P.eqGuardType P.depth t = false) : KdInfo P t 2 l
 | ptr (e : TypeId) (n : Nat) (h : P.underlying t = some (.pointer e)) (hn : szOf P e = some n) (h0 : n ≠ 0) : KdInfo P t 3 []
 | slice (e : TypeId) (h : P.underlying t = some (.slice e)) : KdInfo P t 4 []
 | map (k e : TypeId) (h : P.underlying t = some (.map k e)) : KdInfo P t 5 []
 | func (a b : Array TypeId) (v : Bool) (h : P.underlying t = some (.func a b v)) : KdInfo P t 6 []
theorem kd_info {op : BinOp} {t : TypeId} {kd : Nat} {sg : List Nat} (hk : kdOf P op t = some (kd, sg)) : KdInfo P t kd sg := by
 have main : ∀ (o : Option (Nat × List Nat)), o = (match P.underlying t with
  | some (.int _) | some .string => some (0, [])
  | some .bool => some (1, [])
  | some (.struct _) | some (.array _ _) => if P.eqGuardType P.depth t then none else (flatSig P 20 t).map fun l => (2, l)
  | some (.pointer e) => if szOf P e == some 0 || szOf P e == none then none else some (3, [])
  | some (.slice _) => some (4, [])
  | some (.map _ _) => some (5, [])
  | some (.func _ _ _) => some (6, [])
  | _ => none) → o = some (kd, sg) → KdInfo P t kd sg := by
  intro o ho hs
  rw [ho] at hs
  have agg : (if P.eqGuardType P.depth t then none else (flatSig P 20 t).map fun l => ((2, l) : Nat × List Nat)) = some (kd, sg) → (∃ n, aggOf P t = (szOf P t).map some ∧ n = 0) → KdInfo P t kd sg := by
   intro h ⟨_, ha, _⟩
   split at h
   ·cases h
   ·rename_i hg
    simp only [Option.map_eq_some_iff, Prod.mk.injEq] at h
    obtain ⟨l, hl, rfl, rfl⟩ := h
    exact .agg _ (by simp [sigOf, hl, ha, flat_sz hl]) (by simpa using hg)
  split at hs
  ·cases hs; exact .zero
  ·cases hs; exact .zero
  ·rename_i h; cases hs; exact .bool h
  ·rename_i h; exact agg hs ⟨0, by simp [aggOf, h], rfl⟩
  ·rename_i h; exact agg hs ⟨0, by simp [aggOf, h], rfl⟩
  ·rename_i e h
   split at hs
   ·cases hs
   ·rename_i hz
    cases hs
    simp only [Bool.or_eq_true, beq_iff_eq, not_or] at hz
    cases hsz : szOf P e with
    | none => exact absurd hsz hz.2
    | some n => exact .ptr e n h hsz (by rintro rfl; exact hz.1 hsz)
  ·rename_i h; cases hs; exact .slice _ h
  ·rename_i h; cases hs; exact .map _ _ h
  ·rename_i h; cases hs; exact .func _ _ _ h
  ·cases hs
 unfold kdOf at hk
 split at hk
 ·exact main _ rfl hk
 ·exact main _ rfl hk
 ·cases hk; exact .zero
theorem q_ptr0 (D : Nat) {t e : TypeId} (hu : P.underlying t = some (.pointer e)) (b : Option Addr) (w : World) : (Op.equalIn (D + 1) t (.pointer none) (.pointer b)).run P w = .ok b.isNone w := by
 simp [Op.equalIn, run_underlying hu]
theorem q_ptr1 (D : Nat) {t e : TypeId} (hu : P.underlying t = some (.pointer e)) (a : Addr) (w : World) : (Op.equalIn (D + 1) t (.pointer (some a)) (.pointer none)).run P w = .ok false w := by
 simp [Op.equalIn, run_underlying hu]
theorem q_ptr2 (D : Nat) {t e : TypeId} {n : Nat} (hu : P.underlying t = some (.pointer e)) (hn : szOf P e = some n) (h0 : n ≠ 0) (c off off2 : Nat) (w : World) :
  (Op.equalIn (D + 1) t (.pointer (some ⟨c, off, none⟩)) (.pointer (some ⟨c, off2, none⟩))).run P w = .ok (off == off2) w := by
 have e1 : ((⟨c, off, none⟩ : Addr) == ⟨c, off2, none⟩) = (off == off2) := by rw [Bool.eq_iff_iff]; simp
 simp only [Op.equalIn, Sem.run_bind, run_underlying hu, Result.andThen_ok, run_sz hn w, h0, ne_eq, not_false_eq_true, if_true, sameAddr, beq_self_eq_true, Sem.run_pure, e1]
theorem q_sl0 (D : Nat) {t e : TypeId} (hu : P.underlying t = some (.slice e)) (l c : Nat) (b : Option Addr) (l' c' : Nat) (w : World) : (Op.equalIn (D + 1) t (.slice none l c) (.slice b l' c')).run P w = .ok b.isNone w := by
 simp [Op.equalIn, run_underlying hu]
theorem q_sl1 (D : Nat) {t e : TypeId} (hu : P.underlying t = some (.slice e)) (a : Addr) (l c l' c' : Nat) (w : World) : (Op.equalIn (D + 1) t (.slice (some a) l c) (.slice none l' c')).run P w = .ok false w := by
 simp [Op.equalIn, run_underlying hu]
theorem q_map0 (D : Nat) {t k e : TypeId} (hu : P.underlying t = some (.map k e)) (b : Option Nat) (w : World) : (Op.equalIn (D + 1) t (.map none) (.map b)).run P w = .ok b.isNone w := by
 simp [Op.equalIn, run_underlying hu]
theorem q_map1 (D : Nat) {t k e : TypeId} (hu : P.underlying t = some (.map k e)) (a : Nat) (w : World) : (Op.equalIn (D + 1) t (.map (some a)) (.map none)).run P w = .ok false w := by
 simp [Op.equalIn, run_underlying hu]
theorem q_fn0 (D : Nat) {t : TypeId} {a b : Array TypeId} {v : Bool} (hu : P.underlying t = some (.func a b v)) (w : World) : (Op.equalIn (D + 1) t .nilFunc .nilFunc).run P w = .ok true w := by
 simp [Op.equalIn, run_underlying hu]
theorem q_fn1 (D : Nat) {t : TypeId} {a b : Array TypeId} {v : Bool} (hu : P.underlying t = some (.func a b v)) (f : Fn) (x y : Array Value) (w : World) : (Op.equalIn (D + 1) t .nilFunc (.func f x y)).run P w = .ok false w := by
 simp [Op.equalIn, run_underlying hu]
theorem q_fn2 (D : Nat) {t : TypeId} {a b : Array TypeId} {v : Bool} (hu : P.underlying t = some (.func a b v)) (f : Fn) (x y : Array Value) (w : World) : (Op.equalIn (D + 1) t (.func f x y) .nilFunc).run P w = .ok false w := by
 simp [Op.equalIn, run_underlying hu]
set_option maxHeartbeats 2000000 in
theorem g_bin {φ : Loc} {M : Mem} {w : World} (h : Rep P idf φ M w) {op : BinOp} {t : TypeId} {kd : Nat} {sg : List Nat} (hk : kdOf P op t = some (kd, sg)) {xo yo : Operand} {x x' y y' : Value} (hx : VRel φ x x') (hy : VRel φ y y')
  {v : Value} (hv : binV op kd sg x y = some v) : Gives P idf (do eqGuard op t xo yo x' y'; binOp op t x' y') φ M w v M := by
 have neg : ∀ (b : Bool) (v : Value), negIf op b = some v → VRel φ v v ∧ ((op = .eql ∧ v = .bool b) ∨ (op = .neq ∧ v = .bool !b)) := by
  intro b v hb
  unfold negIf at hb
  split at hb
  ·cases hb; exact ⟨.bool _, .inl ⟨rfl, rfl⟩⟩
  ·cases hb; exact ⟨.bool _, .inr ⟨rfl, rfl⟩⟩
  ·cases hb
 have byEq : ∀ (b : Bool) (v : Value), negIf op b = some v → (eqGuard op t xo yo x' y').run P w = .ok () w → (Op.equal t x' y').run P w = .ok b w →
   (∀ op', op' = .eql ∨ op' = .neq → binOp op' t x' y' = if op' = .eql then (do pure (.bool (← Op.equal t x' y'))) else (do pure (.bool (!(← Op.equal t x' y'))))) → Gives P idf (do eqGuard op t xo yo x' y'; binOp op t x' y') φ M w v M := by
  intro b v hb hg he hop
  obtain ⟨h1, h2⟩ := neg b v hb
  refine Gives.same h ?_ h1
  rcases h2 with ⟨rfl, rfl⟩ | ⟨rfl, rfl⟩
  ·rw [hop .eql (.inl rfl)]; simp [hg, he]
  ·rw [hop .neq (.inr rfl)]; simp [hg, he]
 have kindOf : kd ≠ 0 → (op = .eql ∨ op = .neq) := by
  intro h0
  unfold kdOf at hk
  split at hk
  ·exact .inl rfl
  ·exact .inr rfl
  ·cases hk; exact absurd rfl h0
 unfold binV at hv
 split at hv
 ·-- whole numbers
  rename_i k a k' b
  cases hx; cases hy
  have hg : (eqGuard op t xo yo (.int k a) (.int k' b)).run P w = .ok () w := eqGuard_plain (fun _ _ h => by cases h) (by simp) w
  split at hv
  ·rename_i hs
   unfold shOp at hv
   split at hv
   ·cases hv
   ·rename_i hb
    cases op <;> simp [isShift] at hs <;> simp at hv <;> subst hv <;> refine Gives.same h ?_ (.int _ _) <;> simp [hg, binOp, Op.shift, hb]
  ·rename_i hs
   split at hv
   ·rename_i hkk
    subst hkk
    unfold intOp at hv
    cases op <;> simp [isShift] at hs <;> simp at hv
    case quo => obtain ⟨hz, rfl⟩ := hv; refine Gives.same h ?_ (.int _ _); simp [hg, binOp, Op.intDiv, hz]
    case rem => obtain ⟨hz, rfl⟩ := hv; refine Gives.same h ?_ (.int _ _); simp [hg, binOp, Op.intDiv, hz]
    all_goals (subst hv; refine Gives.same h ?_ (by first | exact .int _ _ | exact .bool _); simp [hg, binOp, Op.intArith, Op.intBits, Op.intCmp])
   ·cases hv
 ·-- strings
  rename_i a b
  cases hx; cases hy
  have hg : (eqGuard op t xo yo (.string a) (.string b)).run P w = .ok () w := eqGuard_plain (fun _ _ h => by cases h) (by simp) w
  unfold strOp at hv
  cases op <;> simp at hv
  case add =>
   obtain ⟨hl, rfl⟩ := hv
   refine Gives.same h ?_ (.str _)
   have h1 : ¬ (((a.size + b.size : Nat) : Int) > IntKind.i64.max) := by
    have : IntKind.i64.max = 9223372036854775807 := by decide
    rw [this]; omega
   simp only [Sem.run_bind, hg, Result.andThen_ok, binOp, Op.stringOp]
   rw [if_neg h1]
   rfl
  all_goals (subst hv; refine Gives.same h ?_ (.bool _); simp [hg, binOp, Op.stringOp])
 ·-- bools
  rename_i a b
  cases hx; cases hy
  split at hv
  ·rename_i hkd
   subst hkd
   cases kd_info hk with
   | bool hu => exact byEq _ v hv (eqGuard_plain (fun _ _ h => by cases h) (by simp) w) (run_equalIn_bool' w 9999 t _ _ hu) (fun op' ho => by rcases ho with rfl | rfl <;> rfl)
  ·cases hv
 ·-- structs, arrays
  rename_i a b
  split at hv
  ·rename_i hkd
   subst hkd
   cases kd_info hk with
   | agg _ hs hg =>
    simp only [Option.bind_eq_some_iff] at hv
    obtain ⟨q, hq, hv⟩ := hv
    have hq' := eqV_rel hx hy hq
    cases hx with
    | agg _ a' ha ia ho => cases hy with
     | agg _ b' hb ib hob =>
      exact byEq q v hv (run_eqGuard_agg w op t xo yo a' b' hg) (eq_sig hs hq' w) (fun op' ho => by rcases ho with rfl | rfl <;> rfl)
  ·cases hv
 ·-- pointers
  split at hv
  ·rename_i hkd
   subst hkd
   cases kd_info hk with
   | ptr e n hu hn h0 =>
    cases hx
    cases hy with
    | ptr0 => exact byEq _ v hv (eqGuard_plain (fun _ _ h => by cases h) (by simp) w) (q_ptr0 9999 hu _ w) (fun op' ho => by rcases ho with rfl | rfl <;> rfl)
    | ptr b off c K hb => exact byEq _ v hv (eqGuard_plain (fun _ _ h => by cases h) (by simp) w) (q_ptr0 9999 hu _ w) (fun op' ho => by rcases ho with rfl | rfl <;> rfl)
  ·cases hv
 ·split at hv
  ·rename_i hkd
   subst hkd
   cases kd_info hk with
   | ptr e n hu hn h0 =>
    cases hy
    cases hx with
    | ptr b off c K hb => exact byEq _ v hv (eqGuard_plain (fun _ _ h => by cases h) (by simp) w) (q_ptr1 9999 hu _ w) (fun op' ho => by rcases ho with rfl | rfl <;> rfl)
  ·cases hv
 ·split at hv
  ·rename_i a b hkd
   obtain ⟨hkd, hbl⟩ := hkd
   subst hkd
   cases kd_info hk with
   | ptr e n hu hn h0 =>
    cases hx with
    | ptr b off c K hb => cases hy with
     | ptr b2 off2 c2 K2 hb2 =>
      simp only at hbl
      subst hbl
      rw [hb] at hb2
      cases hb2
      exact byEq _ v hv (eqGuard_plain (fun _ _ h => by cases h) (by simp) w) (q_ptr2 9999 hu hn h0 _ _ _ w) (fun op' ho => by rcases ho with rfl | rfl <;> rfl)
  ·cases hv
 ·-- slices
  split at hv
  ·rename_i hkd
   subst hkd
   cases kd_info hk with
   | slice e hu =>
    cases hx
    cases hy <;> exact byEq _ v hv (eqGuard_plain (fun _ _ h => by cases h) (by simp) w) (q_sl0 9999 hu _ _ _ _ _ w) (fun op' ho => by rcases ho with rfl | rfl <;> rfl)
  ·cases hv
 ·split at hv
  ·rename_i hkd
   subst hkd
   cases kd_info hk with
   | slice e hu =>
    cases hy
    cases hx <;> exact byEq _ v hv (eqGuard_plain (fun _ _ h => by cases h) (by simp) w) (q_sl1 9999 hu _ _ _ _ _ w) (fun op' ho => by rcases ho with rfl | rfl <;> rfl)
  ·cases hv
 ·-- maps
  split at hv
  ·rename_i hkd
   subst hkd
   cases kd_info hk with
   | map k e hu =>
    cases hx
    cases hy <;> exact byEq _ v hv (eqGuard_plain (fun _ _ h => by cases h) (by simp) w) (q_map0 9999 hu _ w) (fun op' ho => by rcases ho with rfl | rfl <;> rfl)
  ·cases hv
 ·split at hv
  ·rename_i hkd
   subst hkd
   cases kd_info hk with
   | map k e hu =>
    cases hy
    cases hx <;> exact byEq _ v hv (eqGuard_plain (fun _ _ h => by cases h) (by simp) w) (q_map1 9999 hu _ w) (fun op' ho => by rcases ho with rfl | rfl <;> rfl)
  ·cases hv
 ·-- functions
  split at hv
  ·rename_i hkd
   subst hkd
   cases kd_info hk with
   | func a b vd hu =>
    cases hx
    cases hy
    exact byEq _ v hv (eqGuard_plain (fun _ _ h => by cases h) (by simp) w) (q_fn0 9999 hu w) (fun op' ho => by rcases ho with rfl | rfl <;> rfl)
  ·cases hv
 ·split at hv
  ·rename_i hkd
   subst hkd
   cases kd_info hk with
   | func a b vd hu =>
    cases hx
    cases hy <;> exact byEq _ v hv (eqGuard_plain (fun _ _ h => by cases h) (by simp) w) (q_fn1 9999 hu _ _ _ w) (fun op' ho => by rcases ho with rfl | rfl <;> rfl)
  ·cases hv
 ·split at hv
  ·rename_i hkd
   subst hkd
   cases kd_info hk with
   | func a b vd hu =>
    cases hy
    cases hx <;> exact byEq _ v hv (eqGuard_plain (fun _ _ h => by cases h) (by simp) w) (q_fn2 9999 hu _ _ _ w) (fun op' ho => by rcases ho with rfl | rfl <;> rfl)
  ·cases hv
 ·cases hv
end
end Go.Proofs.Ytifemfnjoobiiaa.Run
