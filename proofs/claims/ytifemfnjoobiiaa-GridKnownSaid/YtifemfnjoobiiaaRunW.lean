/- Weakest preconditions over this session's own interpreter: what is to be shown of a function's code, operation by operation, so that a run of it ends, and ends so. No statement of the program's is proved here. -/
import Derived.Test.YtifemfnjoobiiaaRunR
namespace Go.Proofs.Ytifemfnjoobiiaa.Run
open Go Go.RowKit
set_option linter.unusedVariables false
set_option linter.unusedSimpArgs false
def CallLe (c c' : CallF) : Prop := ∀ v args M r, c v args M = some r → c' v args M = some r
section
variable {c c' : CallF}
theorem stepVal_mono (H : CallLe c c') {o : MOper} {t : List Value} {M : Mem} {r : Value × Mem} (h : stepVal c o t M = some r) : stepVal c' o t M = some r := by
 obtain ⟨d, g, q, op⟩ := o
 unfold stepVal at h ⊢
 split at h
 ·rename_i hg
  rw [if_pos hg]
  cases op
  case call f as => exact H _ _ _ _ h
  all_goals exact h
 ·rename_i hg
  rw [if_neg hg]
  exact h
theorem stepQ_mono (H : CallLe c c') {o : MOper} {t : List Value} {M : Mem} {r : Value × Mem} (h : stepQ c o t M = some r) : stepQ c' o t M = some r := by
 unfold stepQ at h ⊢
 split at h
 ·rename_i hq
  rw [if_pos hq]
  obtain ⟨p, h1, h2⟩ := Option.map_eq_some_iff.1 h
  rw [stepVal_mono H h1]
  exact congrArg some h2
 ·rename_i hq
  rw [if_neg hq]
  exact stepVal_mono H h
theorem runOps_mono (H : CallLe c c') : ∀ {os : List MOper} {t : List Value} {M : Mem} {r : List Value × Mem}, runOps c os t M = some r → runOps c' os t M = some r
 | [], t, M, r, h => h
 | o :: os, t, M, r, h => by
  unfold runOps at h ⊢
  split at h
  ·rename_i v M1 hs
   rw [stepQ_mono H hs]
   exact runOps_mono H h
  ·cases h
theorem loopN_mono {f g : St → Option (XE × St)} (H : ∀ s r, f s = some r → g s = some r) : ∀ {n m : Nat} {s : St} {r : XE × St}, n ≤ m → loopN f n s = some r → loopN g m s = some r
 | 0, _, _, _, _, h => by cases h
 | n + 1, 0, _, _, hm, _ => by omega
 | n + 1, m + 1, s, r, hm, h => by
  unfold loopN at h ⊢
  split at h
  ·rename_i s' hs
   rw [H _ _ hs]
   exact loopN_mono H (by omega) h
  ·rename_i hne
   cases hf : f s with
   | none => rw [hf] at h; cases h
   | some p =>
    obtain ⟨x, s'⟩ := p
    rw [hf] at h
    rw [H _ _ hf]
    cases x with
    | normal => exact absurd hf (hne _)
    | exit i => exact h
    | ret => exact h
theorem collect_mono {f g : MapEntry → Option (List St)} (H : ∀ e l, f e = some l → g e = some l) : ∀ {es : List MapEntry} {l : List St}, collect f es = some l → collect g es = some l
 | [], l, h => h
 | e :: es, l, h => by
  simp only [collect, Option.bind_eq_some_iff] at h ⊢
  obtain ⟨a, h1, h2⟩ := h
  obtain ⟨b, h3, rfl⟩ := map_some h2
  exact ⟨a, H _ _ h1, by rw [collect_mono H h3]; rfl⟩
theorem mapHere_mono {it nx ok : Tmp} {s : St} {go go' : St → Option (List St)} (H : ∀ s l, go s = some l → go' s = some l) {l : List St} (h : mapHere it nx ok s go = some l) : mapHere it nx ok s go' = some l := by
 unfold mapHere at h ⊢
 split at h
 ·split at h
  ·split at h
   ·rename_i hc
    rw [if_pos hc]
    split at h
    ·exact h
    ·exact collect_mono (fun e l h => H _ _ h) h
   ·cases h
  ·cases h
 ·cases h
theorem mapAll_mono {run run' : St → Option (XE × St)} (H : ∀ s r, run s = some r → run' s = some r) {it nx ok : Tmp} : ∀ {k m : Nat}, k ≤ m → ∀ {s : St} {l : List St}, mapAll run it nx ok k s = some l → mapAll run' it nx ok m s = some l
 | 0, 0, _, s, l, h => h
 | 0, m + 1, _, s, l, h => mapHere_mono (fun s l h => by cases h) h
 | k + 1, 0, hk, s, l, h => by omega
 | k + 1, m + 1, hk, s, l, h => by
  simp only [mapAll] at h ⊢
  refine mapHere_mono (fun s1 l1 h1 => ?_) h
  split at h1
  ·rename_i s2 e
   rw [H _ _ e]
   exact mapAll_mono H (by omega) h1
  ·cases h1
theorem mapEnd_mono {run run' : St → Option (XE × St)} (H : ∀ s r, run s = some r → run' s = some r) {it nx ok : Tmp} {id k m : Nat} (hk : k ≤ m) {s : St} {r : XE × St} (h : mapEnd run it nx ok id k s = some r) : mapEnd run' it nx ok id m s = some r := by
 unfold mapEnd at h ⊢
 split at h
 ·exact h
 ·exact h
 ·split at h
  ·rename_i e
   rw [mapAll_mono H hk e]
   exact h
  ·cases h
 ·cases h
theorem exec_mono (H : CallLe c c') {n m : Nat} (hm : n ≤ m) (ar : Option Nat) : ∀ (k : MCode) {s : St} {r : XE × St}, exec c n ar k s = some r → exec c' m ar k s = some r := by
 intro k
 induction k with
 | skip => intro s r h; exact h
 | region d ops =>
  intro s r h
  simp only [exec] at h ⊢
  split at h
  ·rename_i h1; rw [runOps_mono H h1]; exact h
  ·cases h
 | seq a b iha ihb =>
  intro s r h
  simp only [exec] at h ⊢
  split at h
  ·rename_i s1 h1; rw [iha h1]; exact ihb h
  ·rename_i hne
   cases hf : exec c n ar a s with
   | none => rw [hf] at h; cases h
   | some p =>
    obtain ⟨x, s'⟩ := p
    rw [hf] at h
    rw [iha hf]
    cases x with
    | normal => exact absurd hf (hne _)
    | exit i => exact h
    | ret => exact h
 | cond x a b iha ihb =>
  intro s r h
  simp only [exec] at h ⊢
  split at h
  ·exact iha h
  ·exact ihb h
  ·cases h
 | block id a ih =>
  intro s r h
  simp only [exec] at h ⊢
  cases hf : exec c n ar a s with
  | none => rw [hf] at h; cases h
  | some p => rw [hf] at h; rw [ih hf]; exact h
 | loop a ih =>
  intro s r h
  simp only [exec] at h ⊢
  exact loopN_mono (fun s r => ih) hm h
 | loopM it nx ok id a ih =>
  intro s r h
  simp only [exec] at h ⊢
  exact mapEnd_mono (fun s r => ih) hm h
 | exit id => intro s r h; exact h
 | ret => intro s r h; exact h
 | rangeFunc f ps as bd _ _ =>
  intro s r h
  simp only [exec] at h ⊢
  split at h
  ·rename_i hf
   rw [if_pos hf]
   cases ar with
   | none =>
    simp only at h ⊢
    split at h
    ·rename_i h1; rw [H _ _ _ _ h1]; exact h
    ·cases h
   | some l =>
    simp only at h ⊢
    cases hg : s.M.get l with
    | none => rw [hg] at h; cases h
    | some o =>
     rw [hg] at h
     cases o with
     | loop st pd tm ps' as' bd' d =>
      simp only at h ⊢
      split at h
      ·rename_i h1; rw [H _ _ _ _ h1]; exact h
      ·cases h
     | _ => cases h
  ·cases h
theorem roundV_mono (H : CallLe c c') {n m : Nat} (hm : n ≤ m) {l : Nat} {args : List Value} {M : Mem} {r : Value × Mem} (h : roundV c n l args M = some r) : roundV c' m l args M = some r := by
 unfold roundV at h ⊢
 cases hg : M.get l with
 | none => rw [hg] at h; cases h
 | some o =>
  rw [hg] at h
  cases o with
  | loop st pd tm ps as bd d =>
   cases st with
   | ready =>
    simp only at h ⊢
    split at h
    ·rename_i hc
     rw [if_pos hc]
     split at h
     ·rename_i s1 e1
      rw [exec_mono H hm _ _ e1]
      simp only
      cases hg1 : s1.M.get l with
      | none => rw [hg1] at h; cases h
      | some o1 =>
       rw [hg1] at h
       cases o1 with
       | loop st1 p1 tm1 ps1 as1 bd1 d1 =>
        cases st1 with
        | ready =>
         simp only at h ⊢
         split at h
         ·rename_i x s2 e2
          rw [exec_mono H hm _ _ e2]
          exact h
         ·cases h
        | _ => cases h
       | _ => cases h
     ·cases h
    ·cases h
   | _ => cases h
  | _ => cases h
end
theorem callN_succ (F : Funs) (E : Orac) : ∀ n, CallLe (callN F E n) (callN F E (n + 1))
 | 0 => fun v args M r h => by cases h
 | n + 1 => fun v args M r h => by
  have ih := callN_succ F E n
  unfold callN at h ⊢
  split at h
  ·rename_i f first cap
   split at h
   ·exact h
   ·split at h
    ·rename_i m hm
     split at h
     ·rename_i s hs; rw [exec_mono ih (Nat.le_succ n) _ _ hs]; exact h
     ·rename_i s hs; rw [exec_mono ih (Nat.le_succ n) _ _ hs]; exact h
     ·cases h
    ·cases h
  ·exact roundV_mono ih (Nat.le_succ n) h
  ·cases h
theorem callN_mono (F : Funs) (E : Orac) {n m : Nat} (h : n ≤ m) : CallLe (callN F E n) (callN F E m) := by
 induction h with
 | refl => exact fun v args M r h => h
 | step _ ih => exact fun v args M r h => callN_succ F E _ _ _ _ _ (ih _ _ _ _ h)
inductive W (F : Funs) (E : Orac) (v : Value) (args : List Value) (M : Mem) (Q : Value → Mem → Prop) : Prop
 | mk (n : Nat) (r : Value) (M' : Mem) (h : callN F E n v args M = some (r, M')) (q : Q r M')
theorem W.mono {F : Funs} {E : Orac} {v : Value} {args : List Value} {M : Mem} {Q R : Value → Mem → Prop} (h : W F E v args M Q) (hq : ∀ r M', Q r M' → R r M') : W F E v args M R := by
 obtain ⟨n, r, M', h, q⟩ := h
 exact ⟨n, r, M', h, hq _ _ q⟩
inductive X (F : Funs) (E : Orac) (ar : Option Nat) (c : MCode) (s : St) (Q : XE → St → Prop) : Prop
 | mk (n : Nat) (x : XE) (s' : St) (h : exec (callN F E n) n ar c s = some (x, s')) (q : Q x s')
inductive LV where
 | v (x : Value)
 | loc (i off : Nat)
 | any
 | non
structure LB where
 b : Nat
 c : List Value
 ty : TypeId
structure LS where
 t : List LV
 L : List LB
 ds : List Nat
 M : Mem
def LV.val (L : List LB) : LV → Value
 | .v x => x
 | .loc i off => match L[i]? with
  | some l => .pointer (some ⟨l.b, off, none⟩)
  | none => undef
 | .any => undef
 | .non => undef
def RV (L : List LB) (x : LV) (y : Value) : Prop := x = .any ∨ y = x.val L
inductive RT (L : List LB) : List LV → List Value → Prop
 | nil : RT L [] []
 | cons {x : LV} {y : Value} {xs : List LV} {ys : List Value} (h : RV L x y) (t : RT L xs ys) : RT L (x :: xs) (y :: ys)
structure Own (L : List LB) (M : Mem) : Prop where
 base : M.base ≤ M.size
 has : ∀ l ∈ L, M.get l.b = some (.cells l.c l.ty true) ∧ M.base ≤ l.b
 inj : ∀ (i j : Nat) (l m : LB), L[i]? = some l → L[j]? = some m → l.b = m.b → i = j
def Fit (L : List LB) : LV → Prop
 | .loc i _ => i < L.length
 | _ => True
def FitAll (L : List LB) (t : List LV) : Prop := ∀ x ∈ t, Fit L x
def KeepB (bs : List Nat) (M M' : Mem) : Prop := ∀ b ∈ bs, b < M.size → M'.get b = M.get b
def KeepC (L : List LB) (M M' : Mem) (P : Prop) : Prop :=
 match L with
 | [] => P
 | L => KeepB (L.map (·.b)) M M' ∧ P
theorem KeepC_cases {L : List LB} {M M' : Mem} {P : Prop} (h : KeepC L M M' P) : KeepB (L.map (·.b)) M M' ∧ P := by
 unfold KeepC at h
 split at h
 ·exact ⟨fun b hb => by simp at hb, h⟩
 ·exact h
def LV.cut (L : List LB) (n : Nat) : LV → LV
 | .v x => .v x
 | .loc i o => match decide (i < n) with
  | true => .loc i o
  | false => .v ((LV.loc i o).val L)
 | .any => .any
 | .non => .non
def LS.cut (n : Nat) (s : LS) : LS :=
 match Nat.ble s.L.length n with
 | true => s
 | false => ⟨s.t.map (LV.cut s.L n), s.L.take n, s.ds, s.M⟩
def forgetT : List Bool → List LV → List LV
 | true :: m, _ :: t => .any :: forgetT m t
 | false :: m, x :: t => x :: forgetT m t
 | _, t => t
def LS.forget (m : List Bool) (s : LS) : LS := ⟨forgetT m s.t, s.L, s.ds, s.M⟩
def cutK (n : Nat) (Q : XE → LS → Prop) : XE → LS → Prop := fun x s => Q x (s.cut n)
def lvO (t : List LV) : Operand → LV
 | .tmp i => t.getD i (.v undef)
 | .const v => .v v
 | .global _ => .v undef
 | .func f => .v (.func (.func f) #[] #[])
def LV.isAny : LV → Bool
 | .any => true
 | _ => false
def knownO (t : List LV) (o : Operand) : Bool := !(lvO t o).isAny
def MOp.opers : MOp → List Operand
 | .val x | .box _ x | .load _ x | .nilCheck x | .un _ x | .convI _ x | .convS x | .castP _ _ x | .mkIface _ x | .fieldAddr _ x | .field _ _ x | .rangeS x | .nextS x | .rangeM x | .nextM x | .entryM x | .extract x _ | .ident x
 | .lenA _ x | .len _ x | .capA _ x | .cap x | .sliceData x | .ptrU x | .noZero _ x => [x]
 | .pick c a b => [c, a, b]
 | .build _ ps | .lit _ _ _ ps => ps.map (·.2.2)
 | .store _ a x | .fill _ _ a x | .bin _ _ _ a x | .mkSlice _ _ _ a x | .addrA _ _ a x | .addrL _ a x | .idxA _ _ _ a x | .idxS a x | .lookup _ _ _ _ a x | .append _ _ _ _ a x | .copy _ a x | .delete _ _ a x | .uString _ a x | .appZ _ _ _ a x => [a, x]
 | .mkFunc _ a b => a ++ b
 | .sliceS x lo hi => x :: (lo.toList ++ hi.toList)
 | .sliceL _ x lo hi mx | .sliceA _ _ x lo hi mx => x :: (lo.toList ++ hi.toList ++ mx.toList)
 | .mapUpd _ _ m k x => [m, k, x]
 | .call f as => f :: as
 | .minmax _ x xs => x :: xs
 | _ => []
def evL (t : List LV) (L : List LB) (o : Operand) : Value := (lvO t o).val L
def putL (t : List LV) (d : Option Tmp) (v : LV) : List LV :=
 match d with
 | some d => t.set d v
 | none => t
def seqK (k : LS → Prop) (Q : XE → LS → Prop) : XE → LS → Prop
 | .normal, s => k s
 | .exit i, s => Q (.exit i) s
 | .ret, s => Q .ret s
def blockK (id : Nat) (Q : XE → LS → Prop) : XE → LS → Prop
 | .normal, s => Q .normal s
 | .exit i, s => match Nat.beq i id with
  | true => Q .normal s
  | false => Q (.exit i) s
 | .ret, s => Q .ret s
theorem blockK.hit {id : Nat} {Q : XE → LS → Prop} {s : LS} (h : Q .normal s) : blockK id Q (.exit id) s := by
 unfold blockK; simp only [Nat.beq_refl]; exact h
def wpIf (v : Value) (A B : Prop) : Prop :=
 match v with
 | .bool true => A
 | .bool false => B
 | _ => False
theorem wpIf.mk {b : Bool} {A B : Prop} (h : b = true → A) (k : b = false → B) : wpIf (.bool b) A B := by
 cases b with
 | true => exact h rfl
 | false => exact k rfl
theorem wpIf.dec {p : Prop} [Decidable p] {A B : Prop} (h : p → A) (k : ¬ p → B) : wpIf (.bool (decide p)) A B :=
 wpIf.mk (fun e => h (of_decide_eq_true e)) (fun e => k (of_decide_eq_false e))
theorem wpIf.beq {x y : Int} {A B : Prop} (h : x = y → A) (k : x ≠ y → B) : wpIf (.bool (x == y)) A B :=
 wpIf.mk (fun e => h (by simpa using e)) (fun e => k (by simpa using e))
theorem wpIf.not {b : Bool} {A B : Prop} (h : b = false → A) (k : b = true → B) : wpIf (.bool (!b)) A B :=
 wpIf.mk (fun e => h (by simpa using e)) (fun e => k (by simpa using e))
def LGet (c : List Value) (o : Nat) (k : Value → Prop) : Prop :=
 match c[o]? with
 | some v => k v
 | none => False
def LGetN (c : List Value) (o n : Nat) (k : Value → Prop) : Prop :=
 match decide (o + n ≤ c.length) with
 | true => k (.agg ((c.drop o).take n).toArray)
 | false => False
def LIdx (v : Value) (n : Nat) (k : Nat → Prop) : Prop :=
 match v with
 | .int _ z => (0 ≤ z ∧ z < n) ∧ k z.toNat
 | _ => False
theorem LIdx.mk {j : IntKind} {z : Int} {n : Nat} {k : Nat → Prop} (h : 0 ≤ z ∧ z < n) (q : k z.toNat) : LIdx (.int j z) n k := ⟨h, q⟩
theorem LIdx_cases {v : Value} {n : Nat} {k : Nat → Prop} (h : LIdx v n k) : ∃ j z, v = .int j z ∧ (0 ≤ z ∧ z < n) ∧ k z.toNat := by
 unfold LIdx at h
 split at h
 ·exact ⟨_, _, rfl, h⟩
 ·exact h.elim
theorem LGet.mk {c : List Value} {o : Nat} {k : Value → Prop} {v : Value} (h : c[o]? = some v) (q : k v) : LGet c o k := by unfold LGet; rw [h]; exact q
theorem LGetN.mk {c : List Value} {o n : Nat} {k : Value → Prop} (h : o + n ≤ c.length) (q : k (.agg ((c.drop o).take n).toArray)) : LGetN c o n k := by unfold LGetN; rw [decide_eq_true h]; exact q
section
variable (t : List LV) (L : List LB)
def subO (o : Operand) : Operand := .const (evL t L o)
def sub : MOp → MOp
 | .val x => .val (subO t L x)
 | .pick c a b => .pick (subO t L c) (subO t L a) (subO t L b)
 | .box ty x => .box ty (subO t L x)
 | .build z ps => .build z (ps.map fun p => (p.1, p.2.1, subO t L p.2.2))
 | .lit ty n z ps => .lit ty n z (ps.map fun p => (p.1, p.2.1, subO t L p.2.2))
 | .load n a => .load n (subO t L a)
 | .store n a x => .store n (subO t L a) (subO t L x)
 | .nilCheck x => .nilCheck (subO t L x)
 | .bin op k sg x y => .bin op k sg (subO t L x) (subO t L y)
 | .un op x => .un op (subO t L x)
 | .convI k x => .convI k (subO t L x)
 | .convS x => .convS (subO t L x)
 | .castP u n x => .castP u n (subO t L x)
 | .mkIface ty x => .mkIface ty (subO t L x)
 | .mkFunc fn a b => .mkFunc fn (a.map (subO t L)) (b.map (subO t L))
 | .mkMap => .mkMap
 | .mkSlice ty b z l c => .mkSlice ty b z (subO t L l) (subO t L c)
 | .sliceS x lo hi => .sliceS (subO t L x) (lo.map (subO t L)) (hi.map (subO t L))
 | .sliceL sz x lo hi mx => .sliceL sz (subO t L x) (lo.map (subO t L)) (hi.map (subO t L)) (mx.map (subO t L))
 | .sliceA n sz x lo hi mx => .sliceA n sz (subO t L x) (lo.map (subO t L)) (hi.map (subO t L)) (mx.map (subO t L))
 | .fieldAddr off x => .fieldAddr off (subO t L x)
 | .field n off x => .field n off (subO t L x)
 | .addrA n sz x i => .addrA n sz (subO t L x) (subO t L i)
 | .addrL sz x i => .addrL sz (subO t L x) (subO t L i)
 | .idxA len n sz x i => .idxA len n sz (subO t L x) (subO t L i)
 | .idxS x i => .idxS (subO t L x) (subO t L i)
 | .lookup z ok ag sg m k => .lookup z ok ag sg (subO t L m) (subO t L k)
 | .mapUpd ag sg m k x => .mapUpd ag sg (subO t L m) (subO t L k) (subO t L x)
 | .rangeS x => .rangeS (subO t L x)
 | .nextS x => .nextS (subO t L x)
 | .rangeM x => .rangeM (subO t L x)
 | .nextM x => .nextM (subO t L x)
 | .entryM x => .entryM (subO t L x)
 | .never => .never
 | .extract x i => .extract (subO t L x) i
 | .call f as => .call (subO t L f) (as.map (subO t L))
 | .ident x => .ident (subO t L x)
 | .append ty b sz st s x => .append ty b sz st (subO t L s) (subO t L x)
 | .copy sz d s => .copy sz (subO t L d) (subO t L s)
 | .lenA n x => .lenA n (subO t L x)
 | .len k x => .len k (subO t L x)
 | .capA n x => .capA n (subO t L x)
 | .cap x => .cap (subO t L x)
 | .minmax mx x xs => .minmax mx (subO t L x) (xs.map (subO t L))
 | .delete ag sg m k => .delete ag sg (subO t L m) (subO t L k)
 | .sliceData x => .sliceData (subO t L x)
 | .uString u p n => .uString u (subO t L p) (subO t L n)
 | .ptrU x => .ptrU (subO t L x)
 | .boxD => .boxD
 | .fill n ty a x => .fill n ty (subO t L a) (subO t L x)
 | .appZ ty b sz s x => .appZ ty b sz (subO t L s) (subO t L x)
 | .noZero ty x => .noZero ty (subO t L x)
variable {t L}
theorem RT.get {tr : List Value} (h : RT L t tr) : ∀ i, RV L (t.getD i (.v undef)) (tr.getD i undef) := by
 induction h with
 | nil => intro i; exact .inr rfl
 | cons hx _ ih =>
  intro i
  cases i with
  | zero => exact hx
  | succ i => exact ih i
theorem ev_real {tr : List Value} (h : RT L t tr) {o : Operand} (hk : knownO t o = true) : ev tr o = evL t L o := by
 cases o with
 | tmp i =>
  rcases h.get i with h1 | h1
  ·simp only [knownO, lvO, h1, LV.isAny] at hk; cases hk
  ·exact h1
 | const v => rfl
 | global g => rfl
 | func f => rfl
theorem map_real {tr : List Value} (h : RT L t tr) {l : List Operand} (hk : l.all (knownO t) = true) : l.map (ev tr) = l.map (evL t L) := List.map_congr_left fun x hx => ev_real h (List.all_eq_true.1 hk x hx)
theorem map_real3 {tr : List Value} (h : RT L t tr) {ps : List (Nat × Nat × Operand)} (hk : (ps.map (·.2.2)).all (knownO t) = true) : (ps.map fun p => (p.1, p.2.1, ev tr p.2.2)) = ps.map fun p => (p.1, p.2.1, evL t L p.2.2) :=
 List.map_congr_left fun x hx => by rw [ev_real h (List.all_eq_true.1 hk _ (List.mem_map_of_mem hx))]
theorem omap_real {tr : List Value} (h : RT L t tr) {o : Option Operand} (hk : o.toList.all (knownO t) = true) : o.map (ev tr) = o.map (evL t L) := by
 cases o with
 | none => rfl
 | some o => simp only [Option.toList_some, List.all_cons, List.all_nil, Bool.and_true] at hk; simp only [Option.map_some, ev_real h hk]
variable (t L)
theorem map_sub (l : List Operand) : (l.map (subO t L)).map (ev []) = l.map (evL t L) := by
 simp only [List.map_map]; exact List.map_congr_left fun x _ => rfl
theorem map_sub3 (ps : List (Nat × Nat × Operand)) : ((ps.map fun p => (p.1, p.2.1, subO t L p.2.2)).map fun p => (p.1, p.2.1, ev [] p.2.2)) = ps.map fun p => (p.1, p.2.1, evL t L p.2.2) := by
 simp only [List.map_map]; exact List.map_congr_left fun x _ => rfl
theorem omap_sub (o : Option Operand) : (o.map (subO t L)).map (ev []) = o.map (evL t L) := by cases o <;> rfl
theorem omap_some (o : Option Operand) : (o.map (subO t L)).isSome = o.isSome := by cases o <;> rfl
theorem ev_sub (o : Operand) : ev [] (subO t L o) = evL t L o := rfl
theorem opSem_sub {tr : List Value} (h : RT L t tr) (op : MOp) (hk : op.opers.all (knownO t) = true) (M : Mem) : opSem (sub t L op) [] M = opSem op tr M := by
 cases op <;> simp only [MOp.opers, List.all_cons, List.all_append, List.all_nil, Bool.and_true, Bool.and_eq_true] at hk <;>
  first
  | rfl
  | (simp only [sub, opSem, map_sub, map_sub3, omap_sub, omap_some, ev_sub, map_real h hk]; done)
  | (simp only [sub, opSem, map_sub, map_sub3, omap_sub, omap_some, ev_sub, map_real3 h hk]; done)
  | (simp only [sub, opSem, map_sub, map_sub3, omap_sub, omap_some, ev_sub, map_real h hk.1, map_real h hk.2]; done)
  | (simp only [sub, opSem, map_sub, map_sub3, omap_sub, omap_some, ev_sub, ev_real h hk.1, map_real h hk.2]; done)
  | (simp only [sub, opSem, ev_sub, ev_real h hk]; done)
  | (simp only [sub, opSem, ev_sub, ev_real h hk]; rfl)
  | (simp only [sub, opSem, ev_sub, ev_real h hk.1, ev_real h hk.2]; done)
  | (simp only [sub, opSem, ev_sub, ev_real h hk.1, ev_real h hk.2]; rfl)
  | (simp only [sub, opSem, ev_sub, ev_real h hk.1, ev_real h hk.2.1, ev_real h hk.2.2]; done)
  | (simp only [sub, opSem, ev_sub, ev_real h hk.1, ev_real h hk.2.1, ev_real h hk.2.2]; rfl)
  | (simp only [sub, opSem, ev_sub, omap_sub, omap_some, ev_real h hk.1, omap_real h hk.2.1, omap_real h hk.2.2]; done)
  | (simp only [sub, opSem, ev_sub, omap_sub, omap_some, ev_real h hk.1, omap_real h hk.2.1.1, omap_real h hk.2.1.2, omap_real h hk.2.2]; done)
end
def readOp : MOp → Bool
 | .load _ _ | .castP _ _ _ | .lookup _ _ _ _ _ _ | .len _ _ | .ptrU _ | .sliceData _ => true
 | op => pureOp op
section
variable (F : Funs) (E : Orac)
def freeTy (t : TypeId) : Bool := t == 126
def opSemQ (op : MOp) (M : Mem) : Option (Value × Mem) :=
 match killOp ⟨none, none, 0, op⟩ [] with
 | true => opSem op [] M
 | false => (opSem op [] M.freeze).map fun r => (r.1, r.2.thaw M.base)
def wpAny (op : MOp) (t : List LV) (L : List LB) (M : Mem) (K : LV → List LB → Mem → Prop) : Prop :=
 match readOp op with
 | true => ∃ v, opSem (sub t L op) [] M = some (v, M) ∧ K (.v v) L M
 | false => ∃ v M', opSem (sub t L op) [] M = some (v, M') ∧ KeepC L M M' (K (.v v) L M')
def wpOp1 (op : MOp) (t : List LV) (L : List LB) (M : Mem) (K : LV → List LB → Mem → Prop) : Prop :=
 match op with
 | .val x => K (lvO t x) L M
 | .ident x => K (lvO t x) L M
 | .mkFunc fn a b => K (.v (.func fn (a.map (evL t L)).toArray (b.map (evL t L)).toArray)) L M
 | .mkIface ty x => K (.v (.iface ty (evL t L x))) L M
 | .bin o k sg x y => ∃ v, binV o k sg (evL t L x) (evL t L y) = some v ∧ K (.v v) L M
 | .un o x => ∃ v, unV o (evL t L x) = some v ∧ K (.v v) L M
 | .pick c a b => wpIf (evL t L c) (K (lvO t a) L M) (K (lvO t b) L M)
 | .box ty x => match freeTy ty with
  | true => notTup (evL t L x) = true ∧ ∀ b M', b = M.size → M' = M.push (.cells (evL t L x).cells.toList ty true) → K (.v (.pointer (some ⟨b, 0, none⟩))) L M'
  | false => notTup (evL t L x) = true ∧ ∀ b M', b = M.size → M' = M.push (.cells (evL t L x).cells.toList ty true) → K (.loc L.length 0) (L ++ [⟨b, (evL t L x).cells.toList, ty⟩]) M'
 | .fieldAddr off x => match lvO t x with
  | .loc i o => K (.loc i (o + off)) L M
  | _ => wpAny (.fieldAddr off x) t L M K
 | .nilCheck x => match lvO t x with
  | .loc i o => K (.loc i o) L M
  | _ => wpAny (.nilCheck x) t L M K
 | .addrA n sz x i => match lvO t x with
  | .loc j o => LIdx (evL t L i) n (fun z => K (.loc j (o + z * sz)) L M)
  | _ => wpAny (.addrA n sz x i) t L M K
 | .load n a => match lvO t a with
  | .loc i o => match L[i]?, n with
   | some l, none => LGet l.c o (fun v => K (.v v) L M)
   | some l, some n => LGetN l.c o n (fun v => K (.v v) L M)
   | none, _ => False
  | _ => wpAny (.load n a) t L M K
 | .store n a x => match lvO t a with
  | .loc i o => match L[i]? with
   | some l => match n with
    | 1 => ∃ y, (evL t L x).cells = #[y] ∧ notTup (evL t L x) = true ∧ (o < l.c.length ∧ ∀ M', M' = M.set l.b (.cells (l.c.set o y) l.ty true) → K (.v undef) (L.set i ⟨l.b, l.c.set o y, l.ty⟩) M')
    | n => ((evL t L x).cells.size = n ∧ notTup (evL t L x) = true ∧ o + n ≤ l.c.length) ∧ ∀ M', M' = M.set l.b (.cells (splice l.c o (evL t L x).cells.toList) l.ty true) → K (.v undef) (L.set i ⟨l.b, splice l.c o (evL t L x).cells.toList, l.ty⟩) M'
   | none => False
  | _ => wpAny (.store n a x) t L M K
 | .call f as => W F E (evL t L f) (as.map (evL t L)) M (fun v M' => KeepC L M M' (K (.v v) L M'))
 | .fill n ty a x => ∃ b, evL t L a = .pointer (some ⟨b, 0, none⟩) ∧ (M.get b = some .dead ∧ M.base ≤ b) ∧ ((evL t L x).cells.size = n ∧ notTup (evL t L x) = true) ∧ ∀ M', M' = M.set b (.cells (evL t L x).cells.toList ty true) → K (.loc L.length 0) (L ++ [⟨b, (evL t L x).cells.toList, ty⟩]) M'
 | op => wpAny op t L M K
def wpOp (op : MOp) (t : List LV) (L : List LB) (M : Mem) (K : LV → List LB → Mem → Prop) : Prop :=
 match op with
 | .val x => K (lvO t x) L M
 | .ident x => K (lvO t x) L M
 | op => match op.opers.all (knownO t) with
  | true => wpOp1 F E op t L M K
  | false => False
def openOp : MOp → Bool
 | .box _ _ => true
 | op => readOp op
def wpQ (o : MOper) (t : List LV) (L : List LB) (M : Mem) (K : LV → List LB → Mem → Prop) : Prop :=
 match (o.q == 3), (o.q == 1 && !openOp o.op), o.op.opers.all (knownO t) with
 | true, _, false => False
 | true, _, true => match isApp o.op with
  | true => ∃ v M', opSemQ (sub t L o.op) M = some (v, M') ∧ KeepC L M M' (K (.v v) L M')
  | false => False
 | false, true, false => False
 | false, true, true => match o.op with
  | .call f as => W F E (evL t L f) (as.map (evL t L)) M.freeze (fun v M' => KeepC L M M' (K (.v v) L (M'.thaw M.base)))
  | op => ∃ v M', opSem (sub t L op) [] M.freeze = some (v, M') ∧ KeepC L M M' (K (.v v) L (M'.thaw M.base))
 | false, false, _ => wpOp F E o.op t L M K
def wpStep (o : MOper) (t : List LV) (L : List LB) (M : Mem) (K : List LV → List LB → Mem → Prop) : Prop :=
 match o.guard with
 | none => wpQ F E o t L M (fun v L' M' => K (putL t o.dst v) L' M')
 | some (i, b) => match lvO t (.tmp i) with
  | .non => K (putL t o.dst .non) L M
  | x => match b with
   | true => wpIf (x.val L) (wpQ F E o (t.set i (.v (.bool true))) L M (fun v L' M' => K (putL (t.set i (.v (.bool true))) o.dst v) L' M')) (K (putL (t.set i (.v (.bool false))) o.dst .non) L M)
   | false => wpIf (x.val L) (K (putL (t.set i (.v (.bool true))) o.dst .non) L M) (wpQ F E o (t.set i (.v (.bool false))) L M (fun v L' M' => K (putL (t.set i (.v (.bool false))) o.dst v) L' M'))
def wpOps : List MOper → List LV → List LB → Mem → (List LV → List LB → Mem → Prop) → Prop
 | [], t, L, M, K => K t L M
 | o :: os, t, L, M, K => wpStep F E o t L M (fun t' L' M' => wpOps os t' L' M' K)
def LoopW (B : LS → (XE → LS → Prop) → Prop) (s : LS) (Q : XE → LS → Prop) : Prop :=
 ∃ (m : List Bool) (I : Nat → LS → Prop), (∃ k, I k (s.forget m)) ∧ ∀ k s, I k s → B s (cutK s.L.length (seqK (fun s' => ∃ j, j < k ∧ I j (s'.forget m)) Q))
structure Fine (s : LS) (r : St) : Prop where
 own : Own s.L s.M
 fit : FitAll s.L s.t
 rel : RT s.L s.t r.t
 ds : r.ds = s.ds
 mem : r.M = s.M
def Ends2 (Q : XE → LS → Prop) (x : XE) (s' : St) : Prop := ∃ S : LS, Fine S s' ∧ Q x S
def RangeW (ar : Option Nat) (c : MCode) (s : LS) (Q : XE → LS → Prop) : Prop := ∀ r, Fine s r → X F E ar c r (Ends2 Q)
def wpC (ar : Option Nat) : MCode → LS → (XE → LS → Prop) → Prop
 | .skip, s, Q => Q .normal s
 | .region _ ops, s, Q => wpOps F E ops s.t s.L s.M (fun t L M => Q .normal ⟨t, L, s.ds, M⟩)
 | .seq a b, s, Q => wpC ar a s (seqK (fun s' => wpC ar b s' Q) Q)
 | .cond c a b, s, Q => match c with
  | .tmp i => wpIf (evL s.t s.L (.tmp i)) (wpC ar a ⟨s.t.set i (.v (.bool true)), s.L, s.ds, s.M⟩ (cutK s.L.length Q)) (wpC ar b ⟨s.t.set i (.v (.bool false)), s.L, s.ds, s.M⟩ (cutK s.L.length Q))
  | c => wpIf (evL s.t s.L c) (wpC ar a s (cutK s.L.length Q)) (wpC ar b s (cutK s.L.length Q))
 | .block id c, s, Q => wpC ar c s (blockK id Q)
 | .loop c, s, Q => LoopW (wpC ar c) s Q
 | .loopM it nx ok id c, s, Q => RangeW F E ar (.loopM it nx ok id c) s Q
 | .exit id, s, Q => Q (.exit id) s
 | .ret, s, Q => Q .ret s
 | .rangeFunc f ps as bd, s, Q => RangeW F E ar (.rangeFunc f ps as bd) s Q
def wpRes : List RVar → List LV → List LB → Mem → (List Value → Prop) → Prop
 | [], _, _, _, K => K []
 | .tmp i :: rs, t, L, M, K => match knownO t (.tmp i) with
  | true => wpRes rs t L M (fun vs => K (evL t L (.tmp i) :: vs))
  | false => False
 | .cell i n :: rs, t, L, M, K => match lvO t (.tmp i) with
  | .loc j o => match L[j]?, n with
   | some l, none => LGet l.c o (fun v => wpRes rs t L M (fun vs => K (v :: vs)))
   | some l, some n => LGetN l.c o n (fun v => wpRes rs t L M (fun vs => K (v :: vs)))
   | none, _ => False
  | .v a => ∃ v, opSem (.load n (.const a)) [] M = some (v, M) ∧ wpRes rs t L M (fun vs => K (v :: vs))
  | _ => False
def retK (m : MFunc) (Q : Value → Mem → Prop) : XE → LS → Prop
 | .normal, s => match s.ds with
  | [] => wpRes m.res s.t s.L s.M (fun vs => Q (tupV vs) s.M)
  | ds => ∃ M', killAll s.M ds = some M' ∧ wpRes m.res s.t s.L M' (fun vs => Q (tupV vs) M')
 | .ret, s => match s.ds with
  | [] => wpRes m.res s.t s.L s.M (fun vs => Q (tupV vs) s.M)
  | ds => ∃ M', killAll s.M ds = some M' ∧ wpRes m.res s.t s.L M' (fun vs => Q (tupV vs) M')
 | .exit _, _ => False
end
theorem read_same {op : MOp} (hr : readOp op = true) {t : List Value} {M M' : Mem} {v : Value} (h : opSem op t M = some (v, M')) : M' = M ∧ opSem op t M.freeze = some (v, M.freeze) := by
 cases hp : pureOp op with
 | true => exact ⟨(opSem_pure hp h).1, (opSem_pure hp h).2 _⟩
 | false =>
  have hl : ∀ b off n, M.freeze.loadN b off n = M.loadN b off n := fun _ _ _ => rfl
  have hl1 : ∀ b off, M.freeze.load1 b off = M.load1 b off := fun _ _ => rfl
  cases op <;> first
   | (exfalso; simp [readOp, hp] at hr; done)
   | skip
  case load n a =>
   simp only [opSem, hl, hl1] at h ⊢
   split at h
   ·cases n with
    | none => simp only at h ⊢; obtain ⟨w, h1, h2⟩ := map_some h; rw [h1]; cases h2; exact ⟨rfl, rfl⟩
    | some n => simp only at h ⊢; obtain ⟨w, h1, h2⟩ := map_some h; rw [h1]; cases h2; exact ⟨rfl, rfl⟩
   ·cases h
  case castP u n x =>
   simp only [opSem, Mem.freeze_get] at h ⊢
   split at h
   ·rename_i b hb
    cases hg : M.get b with
    | none => rw [hg] at h; cases h
    | some o => rw [hg] at h; cases o with
     | cells c ty wr => simp only at h ⊢; split at h <;> rename_i hc; (rw [if_pos hc]; cases h; exact ⟨rfl, rfl⟩); cases h
     | _ => cases h
   ·cases h
  case lookup z ok ag sg m k =>
   simp only [opSem, Mem.freeze_get] at h ⊢
   split at h
   ·split at h <;> rename_i hc; (rw [if_pos hc]; cases h; exact ⟨rfl, rfl⟩); cases h
   ·rename_i b hb
    cases hg : M.get b with
    | none => rw [hg] at h; cases h
    | some o => rw [hg] at h; cases o with
     | map es cl =>
      simp only at h ⊢
      split at h
      ·cases h
      ·rename_i hc; rw [if_neg hc]; obtain ⟨w, h1, h2⟩ := map_some h; rw [h1]; cases h2; exact ⟨rfl, rfl⟩
     | _ => cases h
   ·cases h
  case len kd x =>
   simp only [opSem, Mem.freeze_get] at h ⊢
   split at h
   ·cases h; exact ⟨rfl, rfl⟩
   ·cases h; exact ⟨rfl, rfl⟩
   ·cases h; exact ⟨rfl, rfl⟩
   ·cases h; exact ⟨rfl, rfl⟩
   ·rename_i b hb
    cases hg : M.get b with
    | none => rw [hg] at h; cases h
    | some o => rw [hg] at h; cases o with
     | map es cl => cases h; exact ⟨rfl, rfl⟩
     | _ => cases h
   ·cases h
  case sliceData x =>
   simp only [opSem] at h ⊢
   obtain ⟨w, h1, h2⟩ := map_some h
   rw [h1]; cases h2; exact ⟨rfl, rfl⟩
  case ptrU x =>
   simp only [opSem, Mem.freeze_get] at h ⊢
   split at h
   ·rename_i b off hb
    cases hg : M.get b with
    | none => rw [hg] at h; cases h
    | some o => rw [hg] at h; cases o with
     | cells c ty wr => simp only at h ⊢; split at h <;> rename_i hc; (rw [if_pos hc]; cases h; exact ⟨rfl, rfl⟩); cases h
     | _ => cases h
   ·cases h
theorem wpIf_cases {v : Value} {A B : Prop} (h : wpIf v A B) : (v = .bool true ∧ A) ∨ (v = .bool false ∧ B) := by
 unfold wpIf at h
 split at h
 ·exact .inl ⟨rfl, h⟩
 ·exact .inr ⟨rfl, h⟩
 ·exact h.elim
theorem LGet_cases {c : List Value} {o : Nat} {k : Value → Prop} (h : LGet c o k) : ∃ v, c[o]? = some v ∧ k v := by
 unfold LGet at h
 split at h
 ·rename_i v hv; exact ⟨v, hv, h⟩
 ·exact h.elim
theorem LGetN_cases {c : List Value} {o n : Nat} {k : Value → Prop} (h : LGetN c o n k) : o + n ≤ c.length ∧ k (.agg ((c.drop o).take n).toArray) := by
 unfold LGetN at h
 split at h
 ·rename_i hd; exact ⟨of_decide_eq_true hd, h⟩
 ·exact h.elim
theorem Own.step {L : List LB} {M M' : Mem} (h : Own L M) (hs : MStep M M') (hk : KeepB (L.map (·.b)) M M') : Own L M' where
 base := hs.ok h.base
 has l hl := by
  obtain ⟨h1, h2⟩ := h.has l hl
  exact ⟨by rw [hk l.b (List.mem_map_of_mem hl) (Mem.lt_of_get h1)]; exact h1, by rw [hs.base]; exact h2⟩
 inj := h.inj
theorem Own.push {L : List LB} {M : Mem} (h : Own L M) (c : List Value) (ty : TypeId) : Own (L ++ [⟨M.size, c, ty⟩]) (M.push (.cells c ty true)) := by
 have hlt : ∀ l ∈ L, l.b < M.size := fun l hl => Mem.lt_of_get (h.has l hl).1
 refine ⟨by have := h.base; simp; omega, ?_, ?_⟩
 ·intro l hl
  rcases List.mem_append.1 hl with hl | hl
  ·have := hlt l hl
   rw [Mem.get_push, if_neg (by omega)]
   exact h.has l hl
  ·simp only [List.mem_singleton] at hl
   subst hl
   rw [Mem.get_push, if_pos rfl]
   exact ⟨rfl, h.base⟩
 ·have key : ∀ (i : Nat) (l : LB), (L ++ [⟨M.size, c, ty⟩])[i]? = some l → (i < L.length ∧ L[i]? = some l) ∨ (i = L.length ∧ l.b = M.size) := by
   intro i l hi
   rw [List.getElem?_append] at hi
   split at hi
   ·rename_i h1; exact .inl ⟨h1, hi⟩
   ·rename_i h1
    have : i - L.length = 0 := by
     have := (List.getElem?_eq_some_iff.1 hi).1
     simp at this; omega
    rw [this] at hi
    cases hi
    exact .inr ⟨by omega, rfl⟩
  intro i j l m hi hj hb
  rcases key i l hi with ⟨_, h1⟩ | ⟨h1, h2⟩
  ·rcases key j m hj with ⟨_, h3⟩ | ⟨h3, h4⟩
   ·exact h.inj i j l m h1 h3 hb
   ·have := hlt l (List.mem_of_getElem? h1); omega
  ·rcases key j m hj with ⟨_, h3⟩ | ⟨h3, h4⟩
   ·have := hlt m (List.mem_of_getElem? h3); omega
   ·omega
theorem Own.set {L : List LB} {M : Mem} (h : Own L M) {i : Nat} {l : LB} (hi : L[i]? = some l) (c : List Value) : Own (L.set i ⟨l.b, c, l.ty⟩) (M.set l.b (.cells c l.ty true)) := by
 have hlt : l.b < M.size := Mem.lt_of_get (h.has l (List.mem_of_getElem? hi)).1
 have hil : i < L.length := (List.getElem?_eq_some_iff.1 hi).1
 have key : ∀ (j : Nat) (m : LB), (L.set i ⟨l.b, c, l.ty⟩)[j]? = some m → (j = i ∧ m = ⟨l.b, c, l.ty⟩) ∨ (j ≠ i ∧ L[j]? = some m) := by
  intro j m hj
  by_cases e : j = i
  ·subst e
   rw [List.getElem?_set_self hil] at hj
   exact .inl ⟨rfl, (Option.some.inj hj).symm⟩
  ·rw [List.getElem?_set_ne (fun e' => e e'.symm)] at hj
   exact .inr ⟨e, hj⟩
 refine ⟨h.base, ?_, ?_⟩
 ·intro m hm
  obtain ⟨j, hj⟩ := List.getElem?_of_mem hm
  rcases key j m hj with ⟨_, rfl⟩ | ⟨hne, h1⟩
  ·rw [Mem.get_set _ _ _ hlt, if_pos rfl]
   exact ⟨rfl, (h.has l (List.mem_of_getElem? hi)).2⟩
  ·have hb : m.b ≠ l.b := fun e => hne (h.inj j i m l h1 hi e)
   rw [Mem.get_set _ _ _ hlt, if_neg hb]
   exact h.has m (List.mem_of_getElem? h1)
 ·intro j k m n hj hk hb
  rcases key j m hj with ⟨h1, rfl⟩ | ⟨h1, h2⟩
  ·rcases key k n hk with ⟨h3, rfl⟩ | ⟨h3, h4⟩
   ·omega
   ·exact absurd (h.inj i k l n hi h4 hb).symm h3
  ·rcases key k n hk with ⟨h3, rfl⟩ | ⟨h3, h4⟩
   ·exact absurd (h.inj j i m l h2 hi hb) h1
   ·exact h.inj j k m n h2 h4 hb
theorem Own.fill {L : List LB} {M : Mem} (h : Own L M) {b : Nat} (hg : M.get b = some .dead) (hb : M.base ≤ b) (c : List Value) (ty : TypeId) : Own (L ++ [⟨b, c, ty⟩]) (M.set b (.cells c ty true)) := by
 have hlt := Mem.lt_of_get hg
 have hne : ∀ l ∈ L, l.b ≠ b := fun l hl e => by
  have := (h.has l hl).1
  rw [e, hg] at this; cases this
 refine ⟨h.base, ?_, ?_⟩
 ·intro l hl
  rcases List.mem_append.1 hl with hl | hl
  ·rw [Mem.get_set _ _ _ hlt, if_neg (hne l hl)]
   exact h.has l hl
  ·simp only [List.mem_singleton] at hl
   subst hl
   rw [Mem.get_set _ _ _ hlt, if_pos rfl]
   exact ⟨rfl, hb⟩
 ·have key : ∀ (i : Nat) (l : LB), (L ++ [⟨b, c, ty⟩])[i]? = some l → (i < L.length ∧ L[i]? = some l) ∨ (i = L.length ∧ l.b = b) := by
   intro i l hi
   rw [List.getElem?_append] at hi
   split at hi
   ·rename_i h1; exact .inl ⟨h1, hi⟩
   ·rename_i h1
    obtain ⟨h2, h3⟩ := List.getElem?_eq_some_iff.1 hi
    simp only [List.length_singleton] at h2
    refine .inr ⟨by omega, ?_⟩
    have : i - L.length = 0 := by omega
    simp only [this, List.getElem_cons_zero] at h3
    rw [← h3]
  intro i j l m hi hj hb'
  rcases key i l hi with ⟨h1, h2⟩ | ⟨h1, h2⟩ <;> rcases key j m hj with ⟨h3, h4⟩ | ⟨h3, h4⟩
  ·exact h.inj i j l m h2 h4 hb'
  ·exact absurd (hb'.trans h4) (hne l (List.mem_of_getElem? h2))
  ·exact absurd (hb'.symm.trans h2) (hne m (List.mem_of_getElem? h4))
  ·omega
theorem val_set {L : List LB} {i : Nat} {l : LB} (hi : L[i]? = some l) (c : List Value) (x : LV) : x.val (L.set i ⟨l.b, c, l.ty⟩) = x.val L := by
 cases x with
 | v x => rfl
 | any => rfl
 | non => rfl
 | loc j o =>
  simp only [LV.val]
  by_cases e : j = i
  ·subst e
   rw [List.getElem?_set_self (List.getElem?_eq_some_iff.1 hi).1, hi]
  ·rw [List.getElem?_set_ne (fun e' => e e'.symm)]
structure Grow (L L' : List LB) : Prop where
 len : L.length ≤ L'.length
 val : ∀ x, Fit L x → x.val L' = x.val L
theorem Grow.refl (L : List LB) : Grow L L := ⟨Nat.le_refl _, fun _ _ => rfl⟩
theorem Grow.app (L : List LB) (l : LB) : Grow L (L ++ [l]) := ⟨by simp, fun x hx => by
 cases x with
 | v x => rfl
 | any => rfl
 | non => rfl
 | loc i o =>
  simp only [LV.val]
  rw [List.getElem?_append_left hx]⟩
theorem Grow.set {L : List LB} {i : Nat} {l : LB} (hi : L[i]? = some l) (c : List Value) : Grow L (L.set i ⟨l.b, c, l.ty⟩) := ⟨by simp, fun x _ => val_set hi c x⟩
theorem Fit.grow {L L' : List LB} (h : Grow L L') {x : LV} (hx : Fit L x) : Fit L' x := by
 cases x with
 | v x => trivial
 | any => trivial
 | non => trivial
 | loc i o => exact Nat.lt_of_lt_of_le hx h.len
theorem FitAll.grow {L L' : List LB} (h : Grow L L') {t : List LV} (ht : FitAll L t) : FitAll L' t := fun x hx => (ht x hx).grow h
theorem RV.grow {L L' : List LB} (h : Grow L L') {x : LV} {y : Value} (hx : Fit L x) (hr : RV L x y) : RV L' x y := hr.imp id fun e => e.trans (h.val x hx).symm
theorem RT.grow {L L' : List LB} (h : Grow L L') {t : List LV} {tr : List Value} (ht : FitAll L t) (hr : RT L t tr) : RT L' t tr := by
 induction hr with
 | nil => exact .nil
 | cons hx _ ih => exact .cons (hx.grow h (ht _ (List.mem_cons_self))) (ih fun x hx => ht x (List.mem_cons_of_mem _ hx))
theorem RT.set {L : List LB} {t : List LV} {tr : List Value} (hr : RT L t tr) {x : LV} {y : Value} (h : RV L x y) : ∀ i, RT L (t.set i x) (tr.set i y) := by
 induction hr with
 | nil => intro i; exact .nil
 | cons hx ht ih =>
  intro i
  cases i with
  | zero => exact .cons h ht
  | succ i => exact .cons hx (ih i)
theorem FitAll.set {L : List LB} {t : List LV} (ht : FitAll L t) {x : LV} (hx : Fit L x) (i : Nat) : FitAll L (t.set i x) := fun y hy => by
 rcases List.mem_or_eq_of_mem_set hy with h | rfl
 ·exact ht y h
 ·exact hx
theorem FitAll.put {L : List LB} {t : List LV} (ht : FitAll L t) {x : LV} (hx : Fit L x) (d : Option Tmp) : FitAll L (putL t d x) := by
 cases d with
 | none => exact ht
 | some d => exact ht.set hx d
theorem RT.put {L : List LB} {t : List LV} {tr : List Value} (hr : RT L t tr) {x : LV} {y : Value} (h : RV L x y) (d : Option Tmp) : RT L (putL t d x) (putT tr d y) := by
 cases d with
 | none => exact hr
 | some d => exact hr.set h d
theorem FitAll.lvO {L : List LB} {t : List LV} (ht : FitAll L t) (o : Operand) : Fit L (Run.lvO t o) := by
 cases o with
 | tmp i =>
  simp only [Run.lvO, List.getD]
  cases h : t[i]? with
  | none => trivial
  | some x => exact ht x (List.mem_of_getElem? h)
 | const v => trivial
 | global g => trivial
 | func f => trivial
theorem RT.lvO {L : List LB} {t : List LV} {tr : List Value} (h : RT L t tr) (o : Operand) : RV L (Run.lvO t o) (ev tr o) := by
 cases o with
 | tmp i => exact h.get i
 | const v => exact .inr rfl
 | global g => exact .inr rfl
 | func f => exact .inr rfl
theorem open_same {op : MOp} (hr : openOp op = true) {t : List Value} {M M' : Mem} {v : Value} (h : opSem op t M = some (v, M')) : (opSem op t M.freeze).map (fun r => (r.1, r.2.thaw M.base)) = some (v, M') := by
 by_cases hb : ∃ ty x, op = .box ty x
 ·obtain ⟨ty, x, rfl⟩ := hb
  simp only [opSem] at h ⊢
  split at h
  ·rename_i hn; rw [if_pos hn]; cases h; rfl
  ·cases h
 ·have : readOp op = true := by
   cases op <;> first | exact hr | exact absurd ⟨_, _, rfl⟩ hb
  obtain ⟨h1, h2⟩ := read_same this h
  rw [h2, h1]
  rfl
section
variable {F : Funs} {E : Orac}
structure Good (L : List LB) (M : Mem) (K : LV → List LB → Mem → Prop) (v : LV) (y : Value) (L' : List LB) (M' : Mem) : Prop where
 own : Own L' M'
 grow : Grow L L'
 fit : Fit L' v
 rv : RV L' v y
 k : K v L' M'
theorem wpAny_sound {op : MOp} {t : List LV} {tr : List Value} {L : List LB} {M : Mem} {K : LV → List LB → Mem → Prop} (ho : Own L M) (hr : RT L t tr) (hk : op.opers.all (knownO t) = true) (h : wpAny op t L M K) : ∃ v y L' M', opSem op tr M = some (y, M') ∧ Good L M K v y L' M' := by
 unfold wpAny at h
 split at h
 ·obtain ⟨v, h1, h2⟩ := h
  rw [opSem_sub _ _ hr _ hk] at h1
  exact ⟨.v v, v, L, M, h1, ho, .refl _, trivial, .inr rfl, h2⟩
 ·obtain ⟨v, M', h1, h2⟩ := h
  obtain ⟨h2, h3⟩ := KeepC_cases h2
  rw [opSem_sub _ _ hr _ hk] at h1
  exact ⟨.v v, v, L, M', h1, ho.step (opSem_step ho.base h1) h2, .refl _, trivial, .inr rfl, h3⟩
theorem own_ptr {L : List LB} {M : Mem} (ho : Own L M) {i : Nat} {l : LB} (hi : L[i]? = some l) : M.get l.b = some (.cells l.c l.ty true) ∧ M.base ≤ l.b := ho.has l (List.mem_of_getElem? hi)
theorem load_own {L : List LB} {M : Mem} (ho : Own L M) {i o : Nat} {l : LB} (hi : L[i]? = some l) {n : Option Nat} {v : Value} (hv : (match n with
   | none => l.c[o]? = some v
   | some n => o + n ≤ l.c.length ∧ v = .agg ((l.c.drop o).take n).toArray)) {t : List Value} {a : Operand} (ha : ev t a = (LV.loc i o).val L) : opSem (.load n a) t M = some (v, M) := by
 have hp : (LV.loc i o).val L = .pointer (some ⟨l.b, o, none⟩) := by simp only [LV.val, hi]
 obtain ⟨h1, h2⟩ := own_ptr ho hi
 simp only [opSem, ha, hp]
 cases n with
 | none => simp only [Mem.load1, h1] at hv ⊢; rw [hv]; rfl
 | some n =>
  obtain ⟨h3, rfl⟩ := hv
  simp only [Mem.loadN, h1, if_pos h3]
  rfl
theorem wpOp_sound {op : MOp} {t : List LV} {tr : List Value} {L : List LB} {M : Mem} {K : LV → List LB → Mem → Prop} (ho : Own L M) (ht : FitAll L t) (hr : RT L t tr) (h : wpOp F E op t L M K) :
  ∃ n v y L' M', (∀ d q, stepVal (callN F E n) ⟨d, none, q, op⟩ tr M = some (y, M')) ∧ Good L M K v y L' M' := by
 have one : ∀ op : MOp, (∀ f as, op ≠ .call f as) → ∀ v y L' M', opSem op tr M = some (y, M') → Good L M K v y L' M' → ∃ n v y L' M', (∀ d q, stepVal (callN F E n) ⟨d, none, q, op⟩ tr M = some (y, M')) ∧ Good L M K v y L' M' := by
  intro op hne v y L' M' h1 h2
  refine ⟨0, v, y, L', M', fun d q => ?_, h2⟩
  unfold stepVal
  simp only [guardOk, if_true]
  cases op <;> first | exact h1 | exact absurd rfl (hne _ _)
 have any : ∀ op : MOp, (∀ f as, op ≠ .call f as) → op.opers.all (knownO t) = true → wpAny op t L M K → ∃ n v y L' M', (∀ d q, stepVal (callN F E n) ⟨d, none, q, op⟩ tr M = some (y, M')) ∧ Good L M K v y L' M' := by
  intro op hne hk h
  obtain ⟨v, y, L', M', h1, h2⟩ := wpAny_sound ho hr hk h
  exact one op hne v y L' M' h1 h2
 by_cases hv : (∃ x, op = .val x) ∨ (∃ x, op = .ident x)
 ·rcases hv with ⟨x, rfl⟩ | ⟨x, rfl⟩
  ·exact one _ (by simp) (lvO t x) (ev tr x) L M rfl ⟨ho, .refl _, ht.lvO x, hr.lvO x, h⟩
  ·exact one _ (by simp) (lvO t x) (ev tr x) L M rfl ⟨ho, .refl _, ht.lvO x, hr.lvO x, h⟩
 have hh : op.opers.all (knownO t) = true ∧ wpOp1 F E op t L M K := by
  unfold wpOp at h
  split at h
  ·exact absurd (.inl ⟨_, rfl⟩) hv
  ·exact absurd (.inr ⟨_, rfl⟩) hv
  ·split at h
   ·rename_i hk; exact ⟨hk, h⟩
   ·exact h.elim
 clear h
 obtain ⟨hk, h⟩ := hh
 have hk0 := hk
 cases op <;> simp only [MOp.opers, List.all_cons, List.all_append, List.all_nil, Bool.and_true, Bool.and_eq_true] at hk
 case val x => exact absurd (.inl ⟨_, rfl⟩) hv
 case ident x => exact absurd (.inr ⟨_, rfl⟩) hv
 case mkFunc fn a b => exact one _ (by simp) (.v _) _ L M (by simp only [opSem, map_real hr hk.1, map_real hr hk.2]; rfl) ⟨ho, .refl _, trivial, .inr rfl, h⟩
 case mkIface ty x => exact one _ (by simp) (.v _) _ L M (by simp only [opSem, ev_real hr hk]; rfl) ⟨ho, .refl _, trivial, .inr rfl, h⟩
 case bin o k sg x y =>
  obtain ⟨v, h1, h2⟩ := h
  exact one _ (by simp) (.v v) v L M (by simp only [opSem, ev_real hr hk.1, ev_real hr hk.2, h1]; rfl) ⟨ho, .refl _, trivial, .inr rfl, h2⟩
 case un o x =>
  obtain ⟨v, h1, h2⟩ := h
  exact one _ (by simp) (.v v) v L M (by simp only [opSem, ev_real hr hk, h1]; rfl) ⟨ho, .refl _, trivial, .inr rfl, h2⟩
 case pick c a b =>
  rcases wpIf_cases h with ⟨h1, h2⟩ | ⟨h1, h2⟩
  ·exact one _ (by simp) (lvO t a) _ L M (by simp only [opSem, ev_real hr hk.1, h1]; rfl) ⟨ho, .refl _, ht.lvO a, hr.lvO a, h2⟩
  ·exact one _ (by simp) (lvO t b) _ L M (by simp only [opSem, ev_real hr hk.1, h1]; rfl) ⟨ho, .refl _, ht.lvO b, hr.lvO b, h2⟩
 case box ty x =>
  simp only [wpOp1] at h
  split at h
  ·obtain ⟨h1, h2⟩ := h
   refine one _ (by simp) (.v (.pointer (some ⟨M.size, 0, none⟩))) (.pointer (some ⟨M.size, 0, none⟩)) L (M.push (.cells (evL t L x).cells.toList ty true)) ?_ ⟨ho.step (MStep.push ho.base _) (fun b _ hb => by rw [Mem.get_push, if_neg (by omega)]), .refl _, trivial, .inr rfl, h2 _ _ rfl rfl⟩
   simp only [opSem, ev_real hr hk, h1, if_true, allocV]
  obtain ⟨h1, h2⟩ := h
  refine one _ (by simp) (.loc L.length 0) (.pointer (some ⟨M.size, 0, none⟩)) (L ++ [⟨M.size, (evL t L x).cells.toList, ty⟩]) (M.push (.cells (evL t L x).cells.toList ty true)) ?_ ⟨ho.push _ _, .app _ _, by simp [Fit], .inr (by simp [LV.val]), h2 _ _ rfl rfl⟩
  simp only [opSem, ev_real hr hk, h1, if_true, allocV]
 case fill n ty a x =>
  simp only [wpOp1] at h
  obtain ⟨b, h1, ⟨h2, h3⟩, ⟨h4, h5⟩, h6⟩ := h
  refine one _ (by simp) (.loc L.length 0) (.pointer (some ⟨b, 0, none⟩)) (L ++ [⟨b, (evL t L x).cells.toList, ty⟩]) (M.set b (.cells (evL t L x).cells.toList ty true)) ?_ ⟨ho.fill h2 h3 _ _, .app _ _, by simp [Fit], .inr (by simp [LV.val]), h6 _ rfl⟩
  simp only [opSem, ev_real hr hk.1, ev_real hr hk.2, h1, h2]
  rw [if_pos ⟨h3, h4, h5⟩]
 case fieldAddr off x =>
  unfold wpOp1 at h
  simp only at h
  split at h
  ·rename_i i o hx
   have hf := ht.lvO x
   rw [hx] at hf
   obtain ⟨l, hi⟩ : ∃ l, L[i]? = some l := ⟨_, List.getElem?_eq_getElem hf⟩
   exact one _ (by simp) (.loc i (o + off)) _ L M (by simp only [opSem, ev_real hr hk, evL, hx, LV.val, hi]; rfl) ⟨ho, .refl _, hf, .inr (by simp only [LV.val, hi]), h⟩
  ·exact any _ (by simp) hk0 h
 case nilCheck x =>
  unfold wpOp1 at h
  simp only at h
  split at h
  ·rename_i i o hx
   have hf := ht.lvO x
   rw [hx] at hf
   obtain ⟨l, hi⟩ : ∃ l, L[i]? = some l := ⟨_, List.getElem?_eq_getElem hf⟩
   exact one _ (by simp) (.loc i o) _ L M (by simp only [opSem, ev_real hr hk, evL, hx, LV.val, hi]; rfl) ⟨ho, .refl _, hf, .inr (by simp only [LV.val, hi]), h⟩
  ·exact any _ (by simp) hk0 h
 case addrA n sz x i =>
  unfold wpOp1 at h
  simp only at h
  split at h
  ·rename_i j o hx
   obtain ⟨k, z, h1, h2, h3⟩ := LIdx_cases h
   have hf := ht.lvO x
   rw [hx] at hf
   obtain ⟨l, hi⟩ : ∃ l, L[j]? = some l := ⟨_, List.getElem?_eq_getElem hf⟩
   refine one _ (by simp) (.loc j (o + z.toNat * sz)) _ L M ?_ ⟨ho, .refl _, hf, .inr rfl, h3⟩
   have e1 : evL t L x = .pointer (some ⟨l.b, o, none⟩) := by simp only [evL, hx, LV.val, hi]
   simp only [opSem, ev_real hr hk.1, ev_real hr hk.2, e1, h1, if_pos h2, LV.val, hi]
  ·exact any _ (by simp) hk0 h
 case load n a =>
  unfold wpOp1 at h
  simp only at h
  split at h
  ·rename_i i o hx
   have ha : ev tr a = (LV.loc i o).val L := by rw [ev_real hr hk, evL, hx]
   split at h
   ·rename_i l hi
    obtain ⟨v, h1, h2⟩ := LGet_cases h
    exact one _ (by simp) (.v v) v L M (load_own (n := none) ho hi h1 ha) ⟨ho, .refl _, trivial, .inr rfl, h2⟩
   ·rename_i l n hi
    obtain ⟨h1, h2⟩ := LGetN_cases h
    exact one _ (by simp) (.v _) _ L M (load_own (n := some n) ho hi ⟨h1, rfl⟩ ha) ⟨ho, .refl _, trivial, .inr rfl, h2⟩
   ·exact h.elim
  ·exact any _ (by simp) hk0 h
 case store n a x =>
  unfold wpOp1 at h
  simp only at h
  split at h
  ·rename_i i o hx
   split at h
   ·rename_i l hi
    obtain ⟨⟨h1, h2, h3⟩, h4⟩ : ((evL t L x).cells.size = n ∧ notTup (evL t L x) = true ∧ o + n ≤ l.c.length) ∧ ∀ M', M' = M.set l.b (.cells (splice l.c o (evL t L x).cells.toList) l.ty true) → K (.v undef) (L.set i ⟨l.b, splice l.c o (evL t L x).cells.toList, l.ty⟩) M' := by
     split at h
     ·obtain ⟨y, h1, h2, h3, h4⟩ := h
      have e : splice l.c o (evL t L x).cells.toList = l.c.set o y := by
       rw [h1]
       simp only [splice, List.length_cons, List.length_nil]
       rw [List.set_eq_take_append_cons_drop, if_pos h3]
       simp
      exact ⟨⟨by rw [h1]; rfl, h2, by omega⟩, by rw [e]; exact h4⟩
     ·exact h
    obtain ⟨p1, p2⟩ := own_ptr ho hi
    refine one _ (by simp) (.v undef) undef _ _ ?_ ⟨ho.set hi _, .set hi _, trivial, .inr rfl, h4 _ rfl⟩
    have e1 : evL t L a = .pointer (some ⟨l.b, o, none⟩) := by simp only [evL, hx, LV.val, hi]
    have h3' : o + (evL t L x).cells.toList.length ≤ l.c.length := by simpa [h1] using h3
    simp only [opSem, ev_real hr hk.1, ev_real hr hk.2, e1, if_pos (And.intro h1 h2), Mem.storeQ, Mem.storeN, p1, if_pos (And.intro p2 h3'), Option.map_some]
   ·exact h.elim
  ·exact any _ (by simp) hk0 h
 case call f as =>
  obtain ⟨n, r, M', h1, h2⟩ := h
  obtain ⟨h2, h3⟩ := KeepC_cases h2
  refine ⟨n, .v r, r, L, M', fun d q => ?_, ho.step (callN_step F E n _ _ _ _ _ ho.base h1) h2, .refl _, trivial, .inr rfl, h3⟩
  unfold stepVal
  simp only [guardOk, if_true, ev_real hr hk.1, map_real hr hk.2]
  exact h1
 all_goals exact any _ (by simp) hk0 h
theorem wpQ_sound {o : MOper} {t : List LV} {tr : List Value} {L : List LB} {M : Mem} {K : LV → List LB → Mem → Prop} (hg : guardOk tr o.guard = true) (ho : Own L M) (ht : FitAll L t) (hr : RT L t tr) (h : wpQ F E o t L M K) :
  ∃ n v y L' M', stepQ (callN F E n) o tr M = some (y, M') ∧ Good L M K v y L' M' := by
 obtain ⟨d, g, q, op⟩ := o
 have hgu : ∀ c M, stepVal c ⟨d, g, q, op⟩ tr M = stepVal c ⟨d, none, q, op⟩ tr M := by
  intro c M
  unfold stepVal
  simp only at hg
  simp only [hg]
  rfl
 have fz : ∀ {M' : Mem}, MStep M.freeze M' → KeepB (L.map (·.b)) M M' → Own L (M'.thaw M.base) := by
  intro M' hs hk
  refine ho.step ⟨rfl, hs.size, fun b hb => ?_⟩ hk
  exact hs.ro b (Nat.lt_of_lt_of_le hb ho.base)
 unfold wpQ at h
 split at h
 ·exact h.elim
 ·rename_i hq hk
  simp only [beq_iff_eq] at hq
  subst hq
  split at h
  rotate_left
  ·exact h.elim
  rename_i happ
  simp only at h hk happ
  cases op <;> simp only [isApp] at happ <;> try cases happ
  rename_i ty bytes size str s x
  obtain ⟨v, M', h1, h2⟩ := h
  have hs0 : ∀ c M, stepVal c ⟨d, none, 3, .append ty bytes size str s x⟩ tr M = opSem (.append ty bytes size str s x) tr M := by
   intro c M
   unfold stepVal
   simp only [guardOk, if_true]
  have hsub : ∀ M, opSem (sub t L (.append ty bytes size str s x)) [] M = opSem (.append ty bytes size str s x) tr M := fun M => opSem_sub _ _ hr _ hk M
  have hk2 := hk
  simp only [MOp.opers, List.all_cons, List.all_nil, Bool.and_true, Bool.and_eq_true] at hk2
  have hkill : killOp ⟨none, none, 0, sub t L (.append ty bytes size str s x)⟩ [] = killOp ⟨d, g, 3, .append ty bytes size str s x⟩ tr := by
   have hg' : guardOk tr g = true := hg
   simp only [killOp, sub, ev_sub, hg', ev_real hr hk2.1, ev_real hr hk2.2]
   rfl
  unfold opSemQ at h1
  rw [hkill, hsub, hsub] at h1
  cases hko : killOp ⟨d, g, 3, .append ty bytes size str s x⟩ tr with
  | true =>
   rw [hko] at h1
   simp only at h1
   obtain ⟨h2, h3⟩ := KeepC_cases h2
   refine ⟨0, .v v, v, L, M', ?_, ho.step (opSem_step ho.base h1) h2, .refl _, trivial, .inr rfl, h3⟩
   unfold stepQ
   rw [hko, if_neg (by simp), hgu, hs0]
   exact h1
  | false =>
   rw [hko] at h1
   simp only at h1
   obtain ⟨⟨v1, M1⟩, h4, h5⟩ := Option.map_eq_some_iff.1 h1
   cases h5
   simp only at h2
   obtain ⟨h2, h3⟩ := KeepC_cases h2
   refine ⟨0, .v v1, v1, L, M1.thaw M.base, ?_, ?_, .refl _, trivial, .inr rfl, h3⟩
   ·unfold stepQ
    rw [hko, if_pos (.inr ⟨rfl, rfl⟩), hgu, hs0, h4]
    rfl
   ·have hst := opSem_step (Nat.le_refl _) h4
    exact ho.step ⟨rfl, hst.size, fun b hb => hst.ro b (Nat.lt_of_lt_of_le hb ho.base)⟩ h2
 ·exact h.elim
 ·rename_i hq3 hq hk
  simp only [Bool.and_eq_true, beq_iff_eq] at hq
  obtain ⟨rfl, hq⟩ := hq
  simp only at h hk
  split at h
  ·rename_i f as
   obtain ⟨n, r, M', h1, h2⟩ := h
   obtain ⟨h2, h3⟩ := KeepC_cases h2
   simp only [MOp.opers, List.all_cons, Bool.and_eq_true] at hk
   refine ⟨n, .v r, r, L, M'.thaw M.base, ?_, fz (callN_step F E n _ _ _ _ _ (Nat.le_refl _) h1) h2, .refl _, trivial, .inr rfl, h3⟩
   unfold stepQ
   simp only [hgu]
   simp only [stepVal, guardOk, if_true, ev_real hr hk.1, map_real hr hk.2, h1]
   rfl
  ·rename_i hne
   obtain ⟨v, M', h1, h2⟩ := h
   obtain ⟨h2, h3⟩ := KeepC_cases h2
   rw [opSem_sub _ _ hr _ hk] at h1
   refine ⟨0, .v v, v, L, M'.thaw M.base, ?_, fz (opSem_step (Nat.le_refl _) h1) h2, .refl _, trivial, .inr rfl, h3⟩
   unfold stepQ
   simp only [hgu]
   have hs : ∀ c M, stepVal c ⟨d, none, 1, op⟩ tr M = opSem op tr M := by
    intro c M
    unfold stepVal
    simp only [guardOk, if_true]
    all_goals (cases op <;> first | rfl | exact absurd rfl (hne _ _))
   rw [if_pos (.inl trivial), hs, h1]
   rfl
 ·rename_i hq3 hq
  obtain ⟨n, v, y, L', M', h1, h2⟩ := wpOp_sound ho ht hr h
  refine ⟨n, v, y, L', M', ?_, h2⟩
  unfold stepQ
  simp only [hgu]
  have hq3' : q ≠ 3 := by simpa using hq3
  by_cases hq1 : q = 1
  ·have hr : openOp op = true := by
    simp only [hq1, beq_self_eq_true, Bool.true_and, Bool.not_eq_false'] at hq
    exact hq
   have hne : ∀ f as, op ≠ .call f as := by
    rintro f as rfl; cases hr
   have hs : ∀ c M, stepVal c ⟨d, none, q, op⟩ tr M = opSem op tr M := by
    intro c M
    unfold stepVal
    simp only [guardOk, if_true]
    all_goals (cases op <;> first | rfl | exact absurd rfl (hne _ _))
   have h3 := h1 d q
   rw [hs] at h3
   rw [if_pos (.inl hq1), hs]
   exact open_same hr h3
  ·rw [if_neg (by rintro (h | ⟨h, _⟩); exact hq1 h; exact hq3' h)]
   exact h1 d q
theorem get_bool {t : List LV} {tr : List Value} {L : List LB} (hr : RT L t tr) {i : Nat} {b : Bool} (h : evL t L (.tmp i) = .bool b) : tr[i]? = some (.bool b) ∧ RT L (t.set i (.v (.bool b))) tr := by
 have h0 : ev tr (.tmp i) = .bool b := by
  rw [← h]
  refine ev_real hr ?_
  cases hk : knownO t (.tmp i) with
  | true => rfl
  | false =>
   simp only [evL] at h
   simp only [knownO, Bool.not_eq_false'] at hk
   cases hx : lvO t (.tmp i) with
   | any => rw [hx] at h; cases h
   | v x => rw [hx] at hk; cases hk
   | loc i o => rw [hx] at hk; cases hk
   | non => rw [hx] at hk; cases hk
 have h1 : tr[i]? = some (.bool b) := by
  simp only [ev, List.getD] at h0
  cases ht : tr[i]? with
  | none => rw [ht] at h0; cases h0
  | some x => rw [ht] at h0; exact congrArg some h0
 refine ⟨h1, ?_⟩
 have h2 := hr.set (x := .v (.bool b)) (y := .bool b) (.inr rfl) i
 obtain ⟨hi, h3⟩ := List.getElem?_eq_some_iff.1 h1
 have h4 : tr.set i (.bool b) = tr := by rw [← h3]; exact List.set_getElem_self hi
 rw [h4] at h2
 exact h2
theorem wpStep_sound {o : MOper} {t : List LV} {tr : List Value} {L : List LB} {M : Mem} {K : List LV → List LB → Mem → Prop} (ho : Own L M) (ht : FitAll L t) (hr : RT L t tr) (h : wpStep F E o t L M K) :
  ∃ n v t' L' M', stepQ (callN F E n) o tr M = some (v, M') ∧ RT L' t' (putT tr o.dst v) ∧ Own L' M' ∧ FitAll L' t' ∧ K t' L' M' := by
 have fin : ∀ (s : List LV) (hs : RT L s tr) (hf : FitAll L s) (hg : guardOk tr o.guard = true), wpQ F E o s L M (fun v L' M' => K (putL s o.dst v) L' M') →
   ∃ n v t' L' M', stepQ (callN F E n) o tr M = some (v, M') ∧ RT L' t' (putT tr o.dst v) ∧ Own L' M' ∧ FitAll L' t' ∧ K t' L' M' := by
  intro s hs hf hg h
  obtain ⟨n, v, y, L', M', h1, h2⟩ := wpQ_sound hg ho hf hs h
  exact ⟨n, y, _, L', M', h1, (hs.grow h2.grow hf).put h2.rv _, h2.own, (hf.grow h2.grow).put h2.fit _, h2.k⟩
 have off : ∀ (s : List LV) (hs : RT L s tr) (hf : FitAll L s) (hg : guardOk tr o.guard = false) (hj : guardJunk tr o.guard = false), K (putL s o.dst .non) L M →
   ∃ n v t' L' M', stepQ (callN F E n) o tr M = some (v, M') ∧ RT L' t' (putT tr o.dst v) ∧ Own L' M' ∧ FitAll L' t' ∧ K t' L' M' := by
  intro s hs hf hg hj h
  refine ⟨0, undef, _, L, M, ?_, hs.put (x := .non) (.inr rfl) _, ho, hf.put (show Fit L .non from trivial) _, h⟩
  unfold stepQ stepVal offV
  simp only [hg, hj, Bool.false_eq_true, if_false]
  split
  ·rfl
  ·rfl
 unfold wpStep at h
 split at h
 ·rename_i hg
  exact fin t hr ht (by rw [hg]; rfl) h
 ·rename_i i b hg
  split at h
  ·rename_i hx
   have h0 : ev tr (.tmp i) = undef := by
    have := ev_real hr (o := .tmp i) (by simp [knownO, hx, LV.isAny])
    rw [this, evL, hx]; rfl
   simp only [ev, List.getD] at h0
   refine off t hr ht ?_ ?_ h
   ·rw [hg]
    simp only [guardOk]
    cases hq : tr[i]? with
    | none => rfl
    | some x => rw [hq] at h0; cases h0; rfl
   ·rw [hg]
    simp only [guardJunk]
    cases hq : tr[i]? with
    | none => rfl
    | some x => rw [hq] at h0; cases h0; rfl
  ·rename_i x hne
   split at h
   ·rcases wpIf_cases h with ⟨h1, h2⟩ | ⟨h1, h2⟩
    ·obtain ⟨h3, h4⟩ := get_bool hr h1
     exact fin _ h4 (ht.set (x := .v _) trivial _) (by rw [hg]; simp only [guardOk, h3]; rfl) h2
    ·obtain ⟨h3, h4⟩ := get_bool hr h1
     exact off _ h4 (ht.set (x := .v _) trivial _) (by rw [hg]; simp only [guardOk, h3]; rfl) (by rw [hg]; simp only [guardJunk, h3]) h2
   ·rcases wpIf_cases h with ⟨h1, h2⟩ | ⟨h1, h2⟩
    ·obtain ⟨h3, h4⟩ := get_bool hr h1
     exact off _ h4 (ht.set (x := .v _) trivial _) (by rw [hg]; simp only [guardOk, h3]; rfl) (by rw [hg]; simp only [guardJunk, h3]) h2
    ·obtain ⟨h3, h4⟩ := get_bool hr h1
     exact fin _ h4 (ht.set (x := .v _) trivial _) (by rw [hg]; simp only [guardOk, h3]; rfl) h2
theorem wpOps_sound : ∀ {os : List MOper} {t : List LV} {tr : List Value} {L : List LB} {M : Mem} {K : List LV → List LB → Mem → Prop}, Own L M → FitAll L t → RT L t tr → wpOps F E os t L M K →
  ∃ n t' tr' L' M', runOps (callN F E n) os tr M = some (tr', M') ∧ RT L' t' tr' ∧ Own L' M' ∧ FitAll L' t' ∧ K t' L' M'
 | [], t, tr, L, M, K, ho, ht, hr, h => ⟨0, t, tr, L, M, rfl, hr, ho, ht, h⟩
 | o :: os, t, tr, L, M, K, ho, ht, hr, h => by
  unfold wpOps at h
  obtain ⟨n1, v, t1, L1, M1, h1, h2, h3, h4, h5⟩ := wpStep_sound ho ht hr h
  obtain ⟨n2, t', tr', L', M', h6, h7⟩ := wpOps_sound h3 h4 h2 h5
  refine ⟨max n1 n2, t', tr', L', M', ?_, h7⟩
  unfold runOps
  rw [stepQ_mono (callN_mono F E (Nat.le_max_left n1 n2)) h1]
  exact runOps_mono (callN_mono F E (Nat.le_max_right n1 n2)) h6
theorem Fine.cut {s : LS} {r : St} (h : Fine s r) (n : Nat) : Fine (s.cut n) r := by
 have e : ∀ x, Fit s.L x → (LV.cut s.L n x).val (s.L.take n) = x.val s.L ∧ Fit (s.L.take n) (LV.cut s.L n x) ∧ (x = .any → LV.cut s.L n x = .any) := by
  intro x hx
  cases x with
  | v x => exact ⟨rfl, trivial, by simp⟩
  | any => exact ⟨rfl, trivial, fun _ => rfl⟩
  | non => exact ⟨rfl, trivial, by simp⟩
  | loc i o =>
   by_cases hi : i < n
   ·have hx' : i < s.L.length := hx
    simp only [LV.cut, decide_eq_true hi, LV.val, List.getElem?_take, if_pos hi, Fit, List.length_take]
    exact ⟨trivial, by omega, by simp⟩
   ·simp only [LV.cut, decide_eq_false hi]
    exact ⟨rfl, trivial, by simp⟩
 unfold LS.cut
 split
 ·exact h
 refine ⟨⟨h.own.base, fun l hl => h.own.has l (List.mem_of_mem_take hl), fun i j l m hi hj hb => ?_⟩, fun x hx => ?_, ?_, h.ds, h.mem⟩
 ·have h1 : ∀ (i : Nat) (l : LB), (s.L.take n)[i]? = some l → s.L[i]? = some l := by
   intro i l hi
   rw [List.getElem?_take] at hi
   split at hi
   ·exact hi
   ·cases hi
  exact h.own.inj i j l m (h1 _ _ hi) (h1 _ _ hj) hb
 ·obtain ⟨y, hy, rfl⟩ := List.mem_map.1 hx
  exact (e y (h.fit y hy)).2.1
 ·have key : ∀ (t : List LV) (tr : List Value), FitAll s.L t → RT s.L t tr → RT (s.L.take n) (t.map (LV.cut s.L n)) tr := by
   intro t tr hf hr
   induction hr with
   | nil => exact .nil
   | cons hx _ ih =>
    obtain ⟨e1, e2, e3⟩ := e _ (hf _ List.mem_cons_self)
    exact .cons (hx.imp e3 fun q => q.trans e1.symm) (ih fun x hx => hf x (List.mem_cons_of_mem _ hx))
  exact key s.t r.t h.fit h.rel
theorem Fine.forget {s : LS} {r : St} (h : Fine s r) (m : List Bool) : Fine (s.forget m) r := by
 have key : ∀ (m : List Bool) (t : List LV) (tr : List Value), RT s.L t tr → RT s.L (forgetT m t) tr := by
  intro m t tr hr
  induction hr generalizing m with
  | nil => cases m with
   | nil => exact .nil
   | cons b m => cases b <;> exact .nil
  | cons hx ht ih => cases m with
   | nil => exact .cons hx ht
   | cons b m => cases b with
    | true => exact .cons (.inl rfl) (ih m)
    | false => exact .cons hx (ih m)
 have key2 : ∀ (m : List Bool) (t : List LV), FitAll s.L t → FitAll s.L (forgetT m t) := by
  intro m t
  induction t generalizing m with
  | nil => intro hf; cases m with
   | nil => exact hf
   | cons b m => cases b <;> exact hf
  | cons x t ih => intro hf; cases m with
   | nil => exact hf
   | cons b m => cases b with
    | true =>
     intro y hy
     rcases List.mem_cons.1 hy with rfl | hy
     ·trivial
     ·exact ih m (fun x hx => hf x (List.mem_cons_of_mem _ hx)) y hy
    | false =>
     intro y hy
     rcases List.mem_cons.1 hy with rfl | hy
     ·exact hf _ List.mem_cons_self
     ·exact ih m (fun x hx => hf x (List.mem_cons_of_mem _ hx)) y hy
 exact ⟨h.own, key2 m s.t h.fit, key m s.t r.t h.rel, h.ds, h.mem⟩
theorem Ends2.cut {n : Nat} {Q : XE → LS → Prop} {x : XE} {s : St} (h : Ends2 (cutK n Q) x s) : Ends2 Q x s := by
 obtain ⟨S, h2, h3⟩ := h
 exact ⟨S.cut n, h2.cut n, h3⟩
theorem wpC_sound (ar : Option Nat) : ∀ (c : MCode) {s : LS} {r : St} {Q : XE → LS → Prop}, Fine s r → wpC F E ar c s Q → X F E ar c r (Ends2 Q) := by
 intro c
 induction c with
 | skip => intro s r Q hf h; exact ⟨0, _, _, rfl, s, hf, h⟩
 | region d ops =>
  intro s r Q hf h
  obtain ⟨n, t', tr', L', M', h1, h2, h3, h4, h5⟩ := wpOps_sound hf.own hf.fit hf.rel h
  exact ⟨n, .normal, ⟨tr', r.ds, M'⟩, by simp only [exec, hf.mem, h1], ⟨t', L', s.ds, M'⟩, ⟨h3, h4, h2, hf.ds, rfl⟩, h5⟩
 | seq a b iha ihb =>
  intro s r Q hf h
  obtain ⟨n, x, s1, h1, S, hS, h2⟩ := iha hf h
  cases x with
  | normal =>
   obtain ⟨m, x', s2, h3, h4⟩ := ihb hS h2
   refine ⟨max n m, x', s2, ?_, h4⟩
   simp only [exec]
   rw [exec_mono (callN_mono F E (Nat.le_max_left n m)) (Nat.le_max_left n m) _ _ h1]
   exact exec_mono (callN_mono F E (Nat.le_max_right n m)) (Nat.le_max_right n m) _ _ h3
  | exit i => exact ⟨n, .exit i, _, by simp only [exec, h1], S, hS, h2⟩
  | ret => exact ⟨n, .ret, _, by simp only [exec, h1], S, hS, h2⟩
 | cond c a b iha ihb =>
  intro s r Q hf h
  have fa : ∀ s1 : LS, Fine s1 r → ev r.t c = .bool true → wpC F E ar a s1 (cutK s.L.length Q) → X F E ar (.cond c a b) r (Ends2 Q) := by
   intro s1 hf1 hc h
   obtain ⟨n, x, s', h3, h4⟩ := iha hf1 h
   exact ⟨n, x, s', by simp only [exec, hc, h3], h4.cut⟩
  have fb : ∀ s1 : LS, Fine s1 r → ev r.t c = .bool false → wpC F E ar b s1 (cutK s.L.length Q) → X F E ar (.cond c a b) r (Ends2 Q) := by
   intro s1 hf1 hc h
   obtain ⟨n, x, s', h3, h4⟩ := ihb hf1 h
   exact ⟨n, x, s', by simp only [exec, hc, h3], h4.cut⟩
  have gen : knownO s.t c = true → wpIf (evL s.t s.L c) (wpC F E ar a s (cutK s.L.length Q)) (wpC F E ar b s (cutK s.L.length Q)) → X F E ar (.cond c a b) r (Ends2 Q) := by
   intro hk h
   rcases wpIf_cases h with ⟨h1, h2⟩ | ⟨h1, h2⟩
   ·exact fa s hf (by rw [ev_real hf.rel hk]; exact h1) h2
   ·exact fb s hf (by rw [ev_real hf.rel hk]; exact h1) h2
  unfold wpC at h
  cases c with
  | tmp i =>
   simp only at h
   rcases wpIf_cases h with ⟨h1, h2⟩ | ⟨h1, h2⟩
   ·obtain ⟨h3, h4⟩ := get_bool hf.rel h1
    exact fa ⟨s.t.set i (.v (.bool true)), s.L, s.ds, s.M⟩ ⟨hf.own, hf.fit.set (x := .v _) trivial _, h4, hf.ds, hf.mem⟩ (by simp only [ev, List.getD, h3, Option.getD_some]) h2
   ·obtain ⟨h3, h4⟩ := get_bool hf.rel h1
    exact fb ⟨s.t.set i (.v (.bool false)), s.L, s.ds, s.M⟩ ⟨hf.own, hf.fit.set (x := .v _) trivial _, h4, hf.ds, hf.mem⟩ (by simp only [ev, List.getD, h3, Option.getD_some]) h2
  | const v => exact gen rfl h
  | global g => exact gen rfl h
  | func f => exact gen rfl h
 | block id c ih =>
  intro s r Q hf h
  obtain ⟨n, x, s1, h1, S, hS, h2⟩ := ih hf h
  cases x with
  | normal => exact ⟨n, .normal, _, by simp only [exec, h1], S, hS, h2⟩
  | exit i =>
   simp only [blockK] at h2
   split at h2
   ·rename_i hi
    exact ⟨n, .normal, _, by simp only [exec, h1, if_pos (Nat.eq_of_beq_eq_true hi)], S, hS, h2⟩
   ·rename_i hi
    exact ⟨n, .exit i, _, by simp only [exec, h1, if_neg (Nat.ne_of_beq_eq_false hi)], S, hS, h2⟩
  | ret => exact ⟨n, .ret, _, by simp only [exec, h1], S, hS, h2⟩
 | loop c ih =>
  intro s r Q hf h
  obtain ⟨m, I, ⟨k, hk⟩, hI⟩ := h
  have key : ∀ k s r, Fine s r → I k s → ∃ n m x s', (∀ n' m', n ≤ n' → m ≤ m' → loopN (exec (callN F E n') n' ar c) m' r = some (x, s')) ∧ Ends2 Q x s' := by
   intro k
   induction k using Nat.strongRecOn with
   | _ k ihk =>
    intro s r hf hs
    obtain ⟨n, x, s1, h1, hE⟩ := ih hf (hI k s hs)
    obtain ⟨S, hS, h2⟩ := hE.cut
    have up : ∀ n', n ≤ n' → exec (callN F E n') n' ar c r = some (x, s1) := fun n' hn => exec_mono (callN_mono F E hn) hn _ _ h1
    cases x with
    | normal =>
     obtain ⟨j, hj, hIj⟩ := h2
     obtain ⟨n2, m2, x2, s2, h3, h4⟩ := ihk j hj _ _ (hS.forget m) hIj
     refine ⟨max n n2, m2 + 1, x2, s2, ?_, h4⟩
     intro n' m' hn hm
     obtain ⟨m'', rfl⟩ : ∃ m'', m' = m'' + 1 := ⟨m' - 1, by omega⟩
     unfold loopN
     rw [up n' (by omega)]
     exact h3 n' m'' (by omega) (by omega)
    | exit i =>
     refine ⟨n, 1, .exit i, s1, ?_, S, hS, h2⟩
     intro n' m' hn hm
     obtain ⟨m'', rfl⟩ : ∃ m'', m' = m'' + 1 := ⟨m' - 1, by omega⟩
     unfold loopN
     rw [up n' hn]
    | ret =>
     refine ⟨n, 1, .ret, s1, ?_, S, hS, h2⟩
     intro n' m' hn hm
     obtain ⟨m'', rfl⟩ : ∃ m'', m' = m'' + 1 := ⟨m' - 1, by omega⟩
     unfold loopN
     rw [up n' hn]
  obtain ⟨n, m, x, s', h1, h2⟩ := key k _ _ (hf.forget m) hk
  exact ⟨max n m, x, s', by simp only [exec]; exact h1 _ _ (Nat.le_max_left n m) (Nat.le_max_right n m), h2⟩
 | exit id => intro s r Q hf h; exact ⟨0, _, _, rfl, s, hf, h⟩
 | ret => intro s r Q hf h; exact ⟨0, _, _, rfl, s, hf, h⟩
 | loopM it nx ok id c _ => intro s r Q hf h; exact h r hf
 | rangeFunc f ps as bd _ _ => intro s r Q hf h; exact h r hf
theorem wpRes_sound : ∀ {rs : List RVar} {t : List LV} {tr : List Value} {L : List LB} {M : Mem} {K : List Value → Prop}, Own L M → RT L t tr → wpRes rs t L M K → ∃ vs, resVs tr M rs = some vs ∧ K vs
 | [], t, tr, L, M, K, ho, hr, h => ⟨[], rfl, h⟩
 | .tmp i :: rs, t, tr, L, M, K, ho, hr, h => by
  unfold wpRes at h
  split at h
  ·rename_i hk
   obtain ⟨vs, h1, h2⟩ := wpRes_sound (rs := rs) ho hr h
   have e : tr.getD i undef = evL t L (.tmp i) := ev_real hr hk
   exact ⟨_, by simp only [resVs, resV, h1, e], h2⟩
  ·exact h.elim
 | .cell i n :: rs, t, tr, L, M, K, ho, hr, h => by
  have key : ∀ v, opSem (.load n (.tmp i)) tr M = some (v, M) → wpRes rs t L M (fun vs => K (v :: vs)) → ∃ vs, resVs tr M (.cell i n :: rs) = some vs ∧ K vs := by
   intro v hv h
   obtain ⟨vs, h1, h2⟩ := wpRes_sound (rs := rs) ho hr h
   have : resV tr M (.cell i n) = some v := by
    simp only [resV]
    simp only [opSem, ev] at hv
    split at hv
    ·rename_i b off hb
     cases n with
     | none => obtain ⟨w, h1, h2⟩ := map_some hv; cases h2; exact h1
     | some n => obtain ⟨w, h1, h2⟩ := map_some hv; cases h2; simp only [h1, Option.map_some]
    ·cases hv
   exact ⟨_, by simp only [resVs, this, h1], h2⟩
  unfold wpRes at h
  cases hx : lvO t (.tmp i) with
  | any => simp only [hx] at h
  | non => simp only [hx] at h
  | v a =>
   simp only [hx] at h
   obtain ⟨v, h1, h2⟩ := h
   refine key v ?_ h2
   have e2 : ev tr (.tmp i) = a := by rw [ev_real hr (by simp [knownO, hx, LV.isAny]), evL, hx]; rfl
   simp only [opSem, e2]
   exact h1
  | loc j o =>
   simp only [hx] at h
   have ha : ev tr (.tmp i) = (LV.loc j o).val L := by rw [ev_real hr (by simp [knownO, hx, LV.isAny]), evL, hx]
   split at h
   ·rename_i l hi
    obtain ⟨v, h1, h2⟩ := LGet_cases h
    exact key v (load_own (n := none) ho hi h1 ha) h2
   ·rename_i l n hi
    obtain ⟨h1, h2⟩ := LGetN_cases h
    exact key _ (load_own (n := some n) ho hi ⟨h1, rfl⟩ ha) h2
   ·exact h.elim
theorem killAll_cells : ∀ (ds : List Nat) {M M' : Mem}, killAll M ds = some M' → ∀ {b : Nat} {c : List Value} {ty : TypeId} {wr : Bool}, M.get b = some (.cells c ty wr) → M'.get b = some (.cells c ty wr)
 | [], M, M', h, b, c, ty, wr, hb => by simp only [killAll, Option.some.injEq] at h; rw [← h]; exact hb
 | d :: ds, M, M', h, b, c, ty, wr, hb => by
  simp only [killAll] at h
  split at h
  ·rename_i hd
   split at h
   ·refine killAll_cells ds h ?_
    rw [Mem.get_set _ _ _ (Mem.lt_of_get hd), if_neg]
    ·exact hb
    ·rintro rfl; rw [hd] at hb; cases hb
   ·cases h
  ·cases h
theorem retK_sound {m : MFunc} {Q : Value → Mem → Prop} {x : XE} {S : LS} {r : St} (hf : Fine S r) (h : retK m Q x S) : (x = .normal ∨ x = .ret) ∧ ∃ v M', retV m r = some (v, M') ∧ Q v M' := by
 have gen : (match S.ds with
  | [] => wpRes m.res S.t S.L S.M (fun vs => Q (tupV vs) S.M)
  | ds => ∃ M', killAll S.M ds = some M' ∧ wpRes m.res S.t S.L M' (fun vs => Q (tupV vs) M')) → ∃ v M', retV m r = some (v, M') ∧ Q v M' := by
  intro h
  split at h
  ·rename_i hd
   obtain ⟨vs, h3, h4⟩ := wpRes_sound hf.own hf.rel h
   refine ⟨_, _, ?_, h4⟩
   unfold retV
   simp only [hf.ds, hf.mem, hd, killAll, Option.bind_some, h3, Option.map_some]
  ·obtain ⟨M', h1, h2⟩ := h
   have ho : Own S.L M' := hf.own.step (killAll_step _ _ _ h1) fun b hb _ => by
    obtain ⟨l, hl, rfl⟩ := List.mem_map.1 hb
    have := (hf.own.has l hl).1
    rw [this]
    exact killAll_cells _ h1 this
   obtain ⟨vs, h3, h4⟩ := wpRes_sound ho hf.rel h2
   refine ⟨_, _, ?_, h4⟩
   unfold retV
   simp only [hf.ds, hf.mem, h1, Option.bind_some, h3, Option.map_some]
 cases x with
 | normal => exact ⟨.inl rfl, gen h⟩
 | ret => exact ⟨.inr rfl, gen h⟩
 | exit i => exact h.elim
theorem RT.plain {L : List LB} : ∀ (l : List Value), RT L (l.map .v) l
 | [] => .nil
 | _ :: l => .cons (.inr rfl) (RT.plain l)
theorem RT.undef {L : List LB} : ∀ n, RT L (List.replicate n (.v undef)) (List.replicate n undef)
 | 0 => .nil
 | n + 1 => .cons (.inr rfl) (RT.undef n)
theorem RT.append {L : List LB} {a c : List LV} {b d : List Value} (h : RT L a b) (k : RT L c d) : RT L (a ++ c) (b ++ d) := by
 induction h with
 | nil => exact k
 | cons hx _ ih => exact .cons hx ih
theorem W_clo {f : FuncId} {m : MFunc} {first cap : Array Value} {args : List Value} {M : Mem} {Q : Value → Mem → Prop} (hb : M.base ≤ M.size) (hE : E f (first.toList ++ args ++ cap.toList) M = none) (hF : F f = some m)
  (h : wpC F E none m.body ⟨(first.toList ++ args ++ cap.toList).map .v ++ List.replicate (m.ntmps - (first.toList ++ args ++ cap.toList).length) (.v undef), [], [], M⟩ (retK m Q)) : W F E (.func (.func f) first cap) args M Q := by
 have hf : FitAll [] ((first.toList ++ args ++ cap.toList).map .v ++ List.replicate (m.ntmps - (first.toList ++ args ++ cap.toList).length) (.v undef)) := by
  intro x hx
  rcases List.mem_append.1 hx with hx | hx
  ·obtain ⟨y, _, rfl⟩ := List.mem_map.1 hx; trivial
  ·rw [List.eq_of_mem_replicate hx]; trivial
 obtain ⟨n, x, s, h1, S, hS, h2⟩ := wpC_sound none _ (s := ⟨_, [], [], M⟩) (r := ⟨first.toList ++ args ++ cap.toList ++ List.replicate (m.ntmps - (first.toList ++ args ++ cap.toList).length) undef, [], M⟩) ⟨⟨hb, by simp, by simp⟩, hf, (RT.plain _).append (RT.undef _), rfl, rfl⟩ h
 obtain ⟨hx, r, M', h3, h4⟩ := retK_sound hS h2
 refine ⟨n + 1, r, M', ?_, h4⟩
 simp only [callN, hE, hF]
 rw [h1]
 rcases hx with rfl | rfl <;> exact h3
theorem W_fun {f : FuncId} {m : MFunc} {args : List Value} {M : Mem} {Q : Value → Mem → Prop} (hb : M.base ≤ M.size) (hE : E f args M = none) (hF : F f = some m)
  (h : wpC F E none m.body ⟨args.map .v ++ List.replicate (m.ntmps - args.length) (.v undef), [], [], M⟩ (retK m Q)) : W F E (.func (.func f) #[] #[]) args M Q := by
 refine W_clo (m := m) hb ?_ hF ?_
 ·simpa using hE
 ·simpa using h
theorem W_known {f : FuncId} {args : List Value} {M : Mem} {r : Value} {Q : Value → Mem → Prop} (hE : E f args M = some r) (h : Q r M) : W F E (.func (.func f) #[] #[]) args M Q :=
 ⟨1, r, M, by simp [callN, hE], h⟩
theorem W_funB {f : FuncId} {m : MFunc} {c : MCode} {P : Prop} {args : List Value} {M : Mem} {Q : Value → Mem → Prop} (hb : M.base ≤ M.size) (hE : E f args M = none) (hF : F f = some m) (hc : m.body = c) (e : P = wpC F E none c ⟨args.map .v ++ List.replicate (m.ntmps - args.length) (.v undef), [], [], M⟩ (retK m Q)) (h : P) : W F E (.func (.func f) #[] #[]) args M Q :=
 W_fun hb hE hF (hc ▸ Eq.mp e h)
theorem wpC_of {ar : Option Nat} {c c' : MCode} {P : Prop} {s : LS} {K : XE → LS → Prop} (hc : c = c') (e : P = wpC F E ar c' s K) (h : P) : wpC F E ar c s K := hc ▸ Eq.mp e h
end
abbrev uv : LV := .v undef
abbrev zB : Value := .int .u8 0
abbrev zI : Value := .int .i32 0
abbrev zH : Value := .int .u16 0
abbrev nO : Value := .bool false
abbrev nA4 (l : List LV) : List LV := .any :: .any :: .any :: .any :: l
abbrev nA8 (l : List LV) : List LV := nA4 (nA4 l)
abbrev nA16 (l : List LV) : List LV := nA8 (nA8 l)
abbrev nA32 (l : List LV) : List LV := nA16 (nA16 l)
abbrev nA64 (l : List LV) : List LV := nA32 (nA32 l)
abbrev nU4 (l : List LV) : List LV := uv :: uv :: uv :: uv :: l
abbrev nU8 (l : List LV) : List LV := nU4 (nU4 l)
abbrev nU16 (l : List LV) : List LV := nU8 (nU8 l)
abbrev nU32 (l : List LV) : List LV := nU16 (nU16 l)
abbrev nU64 (l : List LV) : List LV := nU32 (nU32 l)
abbrev nT4 (l : List Bool) : List Bool := true :: true :: true :: true :: l
abbrev nT8 (l : List Bool) : List Bool := nT4 (nT4 l)
abbrev nT16 (l : List Bool) : List Bool := nT8 (nT8 l)
abbrev nT32 (l : List Bool) : List Bool := nT16 (nT16 l)
abbrev nT64 (l : List Bool) : List Bool := nT32 (nT32 l)
end Go.Proofs.Ytifemfnjoobiiaa.Run
