/- How a small memory of this session's interpreter stands for a part of the machine's memory. No statement of the program's is proved here. -/
import Derived.Test.YtifemfnjoobiiaaRunA
import Derived.Laws.CopyRow
import Derived.Laws.Rows
namespace Go.Proofs.Ytifemfnjoobiiaa.Run
open Go Go.RowKit
set_option linter.unusedVariables false
set_option linter.unusedSimpArgs false
abbrev Loc := Nat → Option (Nat × Nat)
inductive VRel (φ : Loc) : Value → Value → Prop
 | bool (b : Bool) : VRel φ (.bool b) (.bool b)
 | int (k : IntKind) (n : Int) : VRel φ (.int k n) (.int k n)
 | str (s : ByteArray) : VRel φ (.string s) (.string s)
 | ptr0 : VRel φ (.pointer none) (.pointer none)
 | ptr (b off c K : Nat) (h : φ b = some (c, K)) : VRel φ (.pointer (some ⟨b, off, none⟩)) (.pointer (some ⟨c, off, none⟩))
 | sl0 : VRel φ (.slice none 0 0) (.slice none 0 0)
 | slx (b off c K s len cap : Nat) (h : φ b = some (c, K)) (hl : len ≤ cap) : VRel φ (.slice (some ⟨b, off, some s⟩) len cap) (.slice (some ⟨c, off, none⟩) len cap)
 | slg (b off c K len cap cap' : Nat) (h : φ b = some (c, K)) (hl : len ≤ cap) (hc : cap ≤ cap') (hK : off = 0 → cap' ≤ K) :
   VRel φ (.slice (some ⟨b, off, none⟩) len cap) (.slice (some ⟨c, off, none⟩) len cap')
 | map0 : VRel φ (.map none) (.map none)
 | map (b c K : Nat) (h : φ b = some (c, K)) : VRel φ (.map (some b)) (.map (some c))
 | func (f : FuncId) (a a' b b' : Array Value) (ha : a.size = a'.size) (hb : b.size = b'.size) (ia : ∀ (i : Nat) (x y : Value), a[i]? = some x → a'[i]? = some y → VRel φ x y)
   (ib : ∀ (i : Nat) (x y : Value), b[i]? = some x → b'[i]? = some y → VRel φ x y) : VRel φ (.func (.func f) a b) (.func (.func f) a' b')
 | yield (l l' K : Nat) (h : φ l = some (l', K)) : VRel φ (.func (.yield l) #[] #[]) (.func (.yield l') #[] #[])
 | nilFunc : VRel φ .nilFunc .nilFunc
 | nilIface : VRel φ .nilIface .nilIface
 | iface (t : TypeId) (v v' : Value) (h : VRel φ v v') : VRel φ (.iface t v) (.iface t v')
 | agg (a a' : Array Value) (ha : a.size = a'.size) (ia : ∀ (i : Nat) (x y : Value), a[i]? = some x → a'[i]? = some y → VRel φ x y) (ho : a.toList.all Value.oneCell' = true) : VRel φ (.agg a) (.agg a')
 | tuple (a a' : Array Value) (ha : a.size = a'.size) (ia : ∀ (i : Nat) (x y : Value), a[i]? = some x → a'[i]? = some y → VRel φ x y) : VRel φ (.tuple a) (.tuple a')
 | junk (y : Value) (hy : y.oneCell' = true) : VRel φ (.chan none) y
 | hole (k : Nat) (a : Addr) (cap : Nat) : VRel φ (.chan (some k)) (.slice (some a) 0 cap)
inductive LRel (φ : Loc) : List Value → List Value → Prop
 | nil : LRel φ [] []
 | cons {x y : Value} {xs ys : List Value} (h : VRel φ x y) (t : LRel φ xs ys) : LRel φ (x :: xs) (y :: ys)
theorem LRel.length {φ : Loc} {xs ys : List Value} (h : LRel φ xs ys) : xs.length = ys.length := by
 induction h with
 | nil => rfl
 | cons _ _ ih => simp [ih]
theorem LRel.idx {φ : Loc} {xs ys : List Value} (h : LRel φ xs ys) : ∀ (i : Nat) (x y : Value), xs[i]? = some x → ys[i]? = some y → VRel φ x y := by
 induction h with
 | nil => intro i x y h; simp at h
 | cons hv _ ih =>
  intro i x y h h'
  cases i with
  | zero => simp at h h'; subst h; subst h'; exact hv
  | succ i => simp at h h'; exact ih i x y h h'
theorem LRel.of_idx {φ : Loc} : ∀ (xs ys : List Value), xs.length = ys.length → (∀ (i : Nat) (x y : Value), xs[i]? = some x → ys[i]? = some y → VRel φ x y) → LRel φ xs ys
 | [], [], _, _ => .nil
 | [], _ :: _, h, _ => by simp at h
 | _ :: _, [], h, _ => by simp at h
 | x :: xs, y :: ys, h, hi => .cons (hi 0 x y rfl rfl) (LRel.of_idx xs ys (by simpa using h) fun i a b ha hb => hi (i + 1) a b (by simpa using ha) (by simpa using hb))
theorem VRel.of_agg {φ : Loc} {a : List Value} {a' : Array Value} (h : LRel φ a a'.toList) (ho : a.all Value.oneCell' = true) : VRel φ (.agg a.toArray) (.agg a') :=
 .agg _ _ (by simpa using h.length) (fun i x y hx hy => h.idx i x y (by simpa using hx) (by simpa using hy)) (by simpa using ho)
theorem VRel.of_tuple {φ : Loc} {a a' : List Value} (h : LRel φ a a') : VRel φ (.tuple a.toArray) (.tuple a'.toArray) :=
 .tuple _ _ (by simpa using h.length) (fun i x y hx hy => h.idx i x y (by simpa using hx) (by simpa using hy))
theorem LRel.of_arr {φ : Loc} {a a' : Array Value} (ha : a.size = a'.size) (ia : ∀ (i : Nat) (x y : Value), a[i]? = some x → a'[i]? = some y → VRel φ x y) : LRel φ a.toList a'.toList :=
 LRel.of_idx _ _ (by simpa using ha) fun i x y hx hy => ia i x y (by simpa using hx) (by simpa using hy)
theorem LRel.append {φ : Loc} {a b c d : List Value} (h : LRel φ a b) (h' : LRel φ c d) : LRel φ (a ++ c) (b ++ d) := by
 induction h with
 | nil => exact h'
 | cons hv _ ih => exact .cons hv ih
theorem LRel.take {φ : Loc} {a b : List Value} (h : LRel φ a b) : ∀ n, LRel φ (a.take n) (b.take n) := by
 induction h with
 | nil => intro n; simp; exact .nil
 | cons hv _ ih => intro n; cases n with
  | zero => exact .nil
  | succ n => exact .cons hv (ih n)
theorem LRel.drop {φ : Loc} {a b : List Value} (h : LRel φ a b) : ∀ n, LRel φ (a.drop n) (b.drop n) := by
 induction h with
 | nil => intro n; simp; exact .nil
 | cons hv ht ih => intro n; cases n with
  | zero => exact .cons hv ht
  | succ n => exact ih n
theorem LRel.set {φ : Loc} {a b : List Value} (h : LRel φ a b) {x y : Value} (hv : VRel φ x y) : ∀ n, LRel φ (a.set n x) (b.set n y) := by
 induction h with
 | nil => intro n; exact .nil
 | cons hx ht ih => intro n; cases n with
  | zero => exact .cons hv ht
  | succ n => exact .cons hx (ih n)
theorem LRel.replicate {φ : Loc} {x y : Value} (hv : VRel φ x y) : ∀ n, LRel φ (List.replicate n x) (List.replicate n y)
 | 0 => .nil
 | n + 1 => .cons hv (LRel.replicate hv n)
theorem VRel.undef {φ : Loc} : VRel φ undef undef := .tuple _ _ rfl fun i x y h => by simp at h
theorem LRel.getD {φ : Loc} {a b : List Value} (h : LRel φ a b) (n : Nat) : VRel φ (a.getD n Go.undef) (b.getD n Go.undef) := by
 by_cases hn : n < a.length
 ·have hn' := h.length ▸ hn
  refine h.idx n _ _ ?_ ?_ <;> simp [List.getD, hn, hn']
 ·have hn' := h.length ▸ hn
  simp only [List.getD, List.getElem?_eq_none (Nat.le_of_not_lt hn), List.getElem?_eq_none (Nat.le_of_not_lt hn'), Option.getD_none]
  exact VRel.undef
theorem LRel.get {φ : Loc} {a b : List Value} (h : LRel φ a b) {n : Nat} {x : Value} (hx : a[n]? = some x) : ∃ y, b[n]? = some y ∧ VRel φ x y := by
 have hn : n < a.length := (List.getElem?_eq_some_iff.1 hx).1
 have hn' := h.length ▸ hn
 exact ⟨b[n], by simp [hn'], h.idx n _ _ hx (by simp [hn'])⟩
theorem VRel.mono {φ φ' : Loc} (he : ∀ b x, φ b = some x → φ' b = some x) {v v' : Value} (h : VRel φ v v') : VRel φ' v v' := by
 induction h with
 | bool b => exact .bool b
 | int k n => exact .int k n
 | str s => exact .str s
 | ptr0 => exact .ptr0
 | ptr b off c K h => exact .ptr b off c K (he _ _ h)
 | sl0 => exact .sl0
 | slx b off c K s len cap h hl => exact .slx b off c K s len cap (he _ _ h) hl
 | slg b off c K len cap cap' h hl hc hK => exact .slg b off c K len cap cap' (he _ _ h) hl hc hK
 | map0 => exact .map0
 | map b c K h => exact .map b c K (he _ _ h)
 | func f a a' b b' ha hb _ _ ia ib => exact .func f a a' b b' ha hb ia ib
 | yield l l' K h => exact .yield l l' K (he _ _ h)
 | nilFunc => exact .nilFunc
 | nilIface => exact .nilIface
 | iface t v v' _ ih => exact .iface t v v' ih
 | agg a a' ha _ ho ia => exact .agg a a' ha ia ho
 | tuple a a' ha _ ia => exact .tuple a a' ha ia
 | junk y hy => exact .junk y hy
 | hole k a cap => exact .hole k a cap
theorem LRel.mono {φ φ' : Loc} (he : ∀ b x, φ b = some x → φ' b = some x) {a b : List Value} (h : LRel φ a b) : LRel φ' a b := by
 induction h with
 | nil => exact .nil
 | cons hv _ ih => exact .cons (hv.mono he) ih
theorem VRel.oneCell {φ : Loc} {v v' : Value} (h : VRel φ v v') : v'.oneCell' = v.oneCell' := by cases h <;> first | rfl | assumption
theorem LRel.oneCell {φ : Loc} {a b : List Value} (h : LRel φ a b) (ho : a.all Value.oneCell' = true) : ∀ v ∈ b, v.oneCell' = true := by
 induction h with
 | nil => simp
 | cons hv _ ih =>
  simp only [List.all_cons, Bool.and_eq_true] at ho
  intro v hm
  cases hm with
  | head => rw [hv.oneCell]; exact ho.1
  | tail _ hm => exact ih ho.2 v hm
theorem VRel.cells {φ : Loc} {v v' : Value} (h : VRel φ v v') : LRel φ v.cells.toList v'.cells.toList := by
 cases h with
 | agg a a' ha ia ho => exact LRel.of_arr ha ia
 | junk y hy =>
  have : v'.cells = #[v'] := by cases v' <;> first | rfl | cases hy
  rw [this]
  exact .cons (.junk _ hy) .nil
 | _ => exact .cons (by first | exact .bool _ | exact .int _ _ | exact .str _ | exact .ptr0 | (exact .ptr _ _ _ _ (by assumption)) | exact .sl0 | (exact .slx _ _ _ _ _ _ _ (by assumption) (by assumption)) | (exact .slg _ _ _ _ _ _ _ (by assumption) (by assumption) (by assumption) (by assumption)) | exact .map0 | (exact .map _ _ _ (by assumption)) | (exact .func _ _ _ _ _ (by assumption) (by assumption) (by assumption) (by assumption)) | (exact .yield _ _ _ (by assumption)) | exact .nilFunc | exact .nilIface | (exact .iface _ _ _ (by assumption)) | (exact .tuple _ _ (by assumption) (by assumption)) | exact .hole _ _ _) .nil
theorem VRel.cells_one {φ : Loc} {v v' : Value} (h : VRel φ v v') (hn : notTup v = true) : v.cells.toList.all Value.oneCell' = true := by
 cases h with
 | agg a a' ha ia ho => exact ho
 | tuple => cases hn
 | _ => rfl
theorem VRel.okS {φ : Loc} {v : Value} (h : okS v = true) : VRel φ v v := by
 unfold Run.okS at h
 split at h <;> first | exact .bool _ | exact .int _ _ | exact .str _ | exact .ptr0 | exact .sl0 | exact .map0 | exact .nilFunc | exact .nilIface | cases h
theorem okS_oneCell {v : Value} (h : okS v = true) : v.oneCell' = true := by
 unfold okS at h
 split at h <;> first | rfl | cases h
theorem LRel.okS {φ : Loc} : ∀ {l : List Value}, l.all okS = true → LRel φ l l
 | [], _ => .nil
 | x :: xs, h => by
  simp only [List.all_cons, Bool.and_eq_true] at h
  exact .cons (VRel.okS h.1) (LRel.okS h.2)
theorem VRel.okC {φ : Loc} {v : Value} (h : okC v = true) : VRel φ v v := by
 unfold Run.okC at h
 split at h
 ·rename_i cs
  have := VRel.of_agg (φ := φ) (a := cs.toList) (a' := cs) (LRel.okS h) (by
   simp only [List.all_eq_true] at h ⊢
   exact fun x hx => okS_oneCell (h x hx))
  simpa using this
 ·exact VRel.okS h
inductive ERel (φ : Loc) : List MapEntry → List MapEntry → Prop
 | nil : ERel φ [] []
 | cons {k k' v v' : Value} {n : Nat} {xs ys : List MapEntry} (hk : VRel φ k k') (hv : VRel φ v v') (t : ERel φ xs ys) : ERel φ (⟨k, v, n⟩ :: xs) (⟨k', v', n⟩ :: ys)
def XE.code : XE → Option Code
 | .normal => none
 | .exit id => some (.exit id)
 | .ret => some .ret
section
variable (P : Program) (idf : FuncId → Bool)
inductive ORel (φ : Loc) (K : Nat) : AObj → Obj → Prop
 | cells (c : List Value) (t : TypeId) (wr : Bool) (c' : Array Value) (fr : Nat × Nat) (hl : c.length ≤ c'.size) (h : LRel φ c (c'.toList.take c.length)) (ho : c.all Value.oneCell' = true)
   (hw : wr = true → fr = (0, 0)) (hK : K * P.cellsOf t ≤ c'.size) : ORel φ K (.cells c t wr) (.cells c' t fr)
 | map (es : List MapEntry) (es' : Array MapEntry) (clock : Nat) (h : ERel φ es es'.toList) : ORel φ K (.map es clock) (.map es' clock)
 | siter (s : ByteArray) (pos : Nat) : ORel φ K (.siter s pos) (.stringIter s pos)
 | mnil : ORel φ K (.miter none) (.mapIter none 0 #[] 0)
 | miter (m m' K' s c : Nat) (h : φ m = some (m', K')) : ORel φ K (.miter (some m)) (.mapIter (some m') s #[] c)
 | miterL (m m' K' s c : Nat) (seen : Array Nat) (h : φ m = some (m', K')) : ORel φ K (.miterL m s seen c) (.mapIter (some m') s seen c)
 | loop (st : LoopState) (pend : Option XE) (tm : List Value) (ps : List Tmp) (as bd : MCode) (d : Nat) (r : Loop) (d' K' : Nat) (hs : r.state = st) (hp : r.pending = pend.bind XE.code) (hne : pend ≠ some .normal)
   (ht : LRel φ tm r.tmps.toList) (hps : r.params.toList = ps) (ha : compC P idf r.assign = some as) (hb : compC P idf r.body = some bd) (hd : φ d = some (d', K')) (hdd : r.defers = d') :
   ORel φ K (.loop st pend tm ps as bd d) (.loop r)
 | dblk : ORel φ K .dblk (.deferred (some []))
 | dead (o : Obj) : ORel φ K .dead o
 | view (c : List (Option Value)) (t : TypeId) (c' : Array Value) (fr : Nat × Nat) (hl : c.length ≤ c'.size) (h : ∀ (i : Nat) (v : Value), c[i]? = some (some v) → v.oneCell' = true ∧ ∃ y, c'.toList[i]? = some y ∧ VRel φ v y) : ORel φ K (.view c) (.cells c' t fr)
theorem ERel.mono {φ φ' : Loc} (he : ∀ b x, φ b = some x → φ' b = some x) {a b : List MapEntry} (h : ERel φ a b) : ERel φ' a b := by
 induction h with
 | nil => exact .nil
 | cons hk hv _ ih => exact .cons (hk.mono he) (hv.mono he) ih
variable {P idf}
theorem ORel.mono {φ φ' : Loc} {K : Nat} (he : ∀ b x, φ b = some x → φ' b = some x) {o : AObj} {o' : Obj} (h : ORel P idf φ K o o') : ORel P idf φ' K o o' := by
 cases h with
 | cells c t wr c' fr hl h ho hw hK => exact .cells c t wr c' fr hl (h.mono he) ho hw hK
 | map es es' clock h => exact .map es es' clock (h.mono he)
 | siter s pos => exact .siter s pos
 | mnil => exact .mnil
 | miter m m' K' s c h => exact .miter m m' K' s c (he _ _ h)
 | miterL m m' K' s c seen h => exact .miterL m m' K' s c seen (he _ _ h)
 | loop st pend tm ps as bd d r d' K' hs hp hne ht hps ha hb hd hdd => exact .loop st pend tm ps as bd d r d' K' hs hp hne (ht.mono he) hps ha hb (he _ _ hd) hdd
 | dblk => exact .dblk
 | dead => exact .dead _
 | view c t c' fr hl h => exact .view c t c' fr hl fun i v hi => ⟨(h i v hi).1, (h i v hi).2.imp fun y hy => ⟨hy.1, hy.2.mono he⟩⟩
variable (P idf)
structure Rep (φ : Loc) (M : Mem) (w : World) : Prop where
 bs : M.base ≤ M.size
 obj : ∀ b c K, φ b = some (c, K) → ∃ o o', M.get b = some o ∧ w.heap[c]? = some o' ∧ ORel P idf φ K o o'
 inj : ∀ b₁ b₂ c K₁ K₂, φ b₁ = some (c, K₁) → φ b₂ = some (c, K₂) → M.get b₁ ≠ some .dead → M.get b₂ ≠ some .dead → b₁ = b₂
structure Stp (φ : Loc) (M : Mem) (w : World) (φ' : Loc) (M' : Mem) (w' : World) : Prop where
 ext : ∀ b x, φ b = some x → φ' b = some x
 new : ∀ b x, φ' b = some x → φ b = none → M.size ≤ b ∧ b < M'.size
 fresh : ∀ b c K, φ' b = some (c, K) → φ b = none → w.heap.size ≤ c ∨ ∃ b₀ K₀, φ b₀ = some (c, K₀) ∧ M.base ≤ b₀
 base : M'.base = M.base
 size : M.size ≤ M'.size
 ro : ∀ b, b < M.base → M'.get b = M.get b
 frame : ∀ c, c < w.heap.size → (∀ b K, φ b = some (c, K) → b < M.base) → w'.heap[c]? = w.heap[c]?
 hsize : w.heap.size ≤ w'.heap.size
 os : w'.os = w.os
 tape : w'.tape = w.tape
 output : w'.output = w.output
theorem Stp.refl (φ : Loc) (M : Mem) (w : World) : Stp φ M w φ M w :=
 ⟨fun _ _ h => h, fun b x h h' => by (rw [h] at h'; cases h'), fun b c K h h' => by (rw [h] at h'; cases h'), rfl, Nat.le_refl _, fun _ _ => rfl, fun _ _ _ => rfl, Nat.le_refl _, rfl, rfl, rfl⟩
theorem Stp.trans {φ₀ φ₁ φ₂ : Loc} {M₀ M₁ M₂ : Mem} {w₀ w₁ w₂ : World} (h : Stp φ₀ M₀ w₀ φ₁ M₁ w₁) (k : Stp φ₁ M₁ w₁ φ₂ M₂ w₂) : Stp φ₀ M₀ w₀ φ₂ M₂ w₂ where
 ext b x hb := k.ext b x (h.ext b x hb)
 new b x hb hn := by
  cases h1 : φ₁ b with
  | none => have := k.new b x hb h1; have := h.size; omega
  | some y => have := h.new b y h1 hn; have := k.size; omega
 fresh b c K hb hn := by
  cases h1 : φ₁ b with
  | none =>
   rcases k.fresh b c K hb h1 with hc | ⟨b₀, K₀, h0, hl⟩
   ·exact .inl (Nat.le_trans h.hsize hc)
   ·rw [h.base] at hl
    cases h2 : φ₀ b₀ with
    | none => rcases h.fresh b₀ c K₀ h0 h2 with hc | hc
              ·exact .inl hc
              ·exact .inr hc
    | some y =>
     have := h.ext _ _ h2
     rw [h0] at this; cases this
     exact .inr ⟨b₀, K₀, h2, hl⟩
  | some y =>
   have := k.ext _ _ h1
   rw [hb] at this; cases this
   exact h.fresh b c K h1 hn
 base := k.base.trans h.base
 size := Nat.le_trans h.size k.size
 ro b hb := (k.ro b (h.base ▸ hb)).trans (h.ro b hb)
 frame c hc hall := by
  rw [k.frame c (Nat.lt_of_lt_of_le hc h.hsize) ?_, h.frame c hc hall]
  intro b K hb
  rw [h.base]
  cases h1 : φ₀ b with
  | none =>
   rcases h.fresh b c K hb h1 with hl | ⟨b₀, K₀, h0, hl⟩
   ·omega
   ·have := hall b₀ K₀ h0; omega
  | some y =>
   have := h.ext _ _ h1
   rw [hb] at this; cases this
   exact hall b K h1
 hsize := Nat.le_trans h.hsize k.hsize
 os := k.os.trans h.os
 tape := k.tape.trans h.tape
 output := k.output.trans h.output
theorem Stp.drew {φ : Loc} {M : Mem} {w : World} (n : Nat) : Stp φ M w φ M { w with drawn := n } :=
 ⟨fun _ _ h => h, fun b x h h' => by (rw [h] at h'; cases h'), fun b c K h h' => by (rw [h] at h'; cases h'), rfl, Nat.le_refl _, fun _ _ => rfl, fun _ _ _ => rfl, Nat.le_refl _, rfl, rfl, rfl⟩
variable {P idf}
theorem Rep.of_heap {φ : Loc} {M : Mem} {w w' : World} (h : Rep P idf φ M w) (hh : w'.heap = w.heap) : Rep P idf φ M w' :=
 ⟨h.bs, fun b c K hb => by rw [hh]; exact h.obj b c K hb, h.inj⟩
theorem Rep.lt {φ : Loc} {M : Mem} {w : World} (h : Rep P idf φ M w) {b c K : Nat} (hb : φ b = some (c, K)) : b < M.size ∧ c < w.heap.size := by
 obtain ⟨o, o', h1, h2, _⟩ := h.obj b c K hb
 exact ⟨Mem.lt_of_get h1, (Array.getElem?_eq_some_iff.1 h2).1⟩
def Loc.add (φ : Loc) (n : Nat) (x : Nat × Nat) : Loc := fun b => if b = n then some x else φ b
theorem Loc.add_ext {φ : Loc} {n : Nat} {x : Nat × Nat} (hn : φ n = none) : ∀ b y, φ b = some y → φ.add n x b = some y := by
 intro b y h
 unfold Loc.add
 split
 ·rename_i e; subst e; rw [hn] at h; cases h
 ·exact h
theorem Rep.none_size {φ : Loc} {M : Mem} {w : World} (h : Rep P idf φ M w) : φ M.size = none := by
 cases hb : φ M.size with
 | none => rfl
 | some x => exact absurd (h.lt hb).1 (Nat.lt_irrefl _)
theorem alloc_get (w : World) (o : Obj) (k : Nat) : (w.alloc o).heap[k]? = if k = w.heap.size then some o else w.heap[k]? := by
 show (w.heap.push o)[k]? = _
 rw [Array.getElem?_push]
theorem alloc_size (w : World) (o : Obj) : (w.alloc o).heap.size = w.heap.size + 1 := by
 show (w.heap.push o).size = _
 simp
theorem Rep.alloc {φ : Loc} {M : Mem} {w : World} (h : Rep P idf φ M w) {o : AObj} {o' : Obj} {K : Nat} (ho : ORel P idf (φ.add M.size (w.heap.size, K)) K o o') :
  Rep P idf (φ.add M.size (w.heap.size, K)) (M.push o) (w.alloc o') ∧ Stp φ M w (φ.add M.size (w.heap.size, K)) (M.push o) (w.alloc o') := by
 have hn := h.none_size
 have he := Loc.add_ext (x := (w.heap.size, K)) hn
 have old : ∀ b c K₁, φ.add M.size (w.heap.size, K) b = some (c, K₁) → b ≠ M.size → φ b = some (c, K₁) := by
  intro b c K₁ hb hne
  unfold Loc.add at hb
  rwa [if_neg hne] at hb
 refine ⟨⟨by have := h.bs; simp; omega, fun b c K₁ hb => ?_, fun b₁ b₂ c K₁ K₂ h1 h2 l1 l2 => ?_⟩, ⟨he, fun b x hb hnone => ?_, fun b c K₁ hb hnone => ?_, rfl, by simp, fun b hb => ?_, fun c hc _ => ?_, by rw [alloc_size]; omega, rfl, rfl, rfl⟩⟩
 ·by_cases e : b = M.size
  ·subst e
   simp only [Loc.add, if_true, Option.some.injEq, Prod.mk.injEq] at hb
   obtain ⟨rfl, rfl⟩ := hb
   exact ⟨o, o', by rw [Mem.get_push, if_pos rfl], by rw [alloc_get, if_pos rfl], ho⟩
  ·have hb' := old b c K₁ hb e
   obtain ⟨p, p', h1, h2, h3⟩ := h.obj b c K₁ hb'
   exact ⟨p, p', by rw [Mem.get_push, if_neg e]; exact h1, by rw [alloc_get, if_neg (by have := (h.lt hb').2; omega)]; exact h2, h3.mono he⟩
 ·by_cases e1 : b₁ = M.size
  ·by_cases e2 : b₂ = M.size
   ·rw [e1, e2]
   ·have := (h.lt (old b₂ c K₂ h2 e2)).2
    subst e1
    simp only [Loc.add, if_true, Option.some.injEq, Prod.mk.injEq] at h1
    omega
  ·by_cases e2 : b₂ = M.size
   ·have := (h.lt (old b₁ c K₁ h1 e1)).2
    subst e2
    simp only [Loc.add, if_true, Option.some.injEq, Prod.mk.injEq] at h2
    omega
   ·rw [Mem.get_push, if_neg e1] at l1
    rw [Mem.get_push, if_neg e2] at l2
    exact h.inj b₁ b₂ c K₁ K₂ (old _ _ _ h1 e1) (old _ _ _ h2 e2) l1 l2
 ·by_cases e : b = M.size
  ·subst e; simp
  ·exfalso; unfold Loc.add at hb; rw [if_neg e] at hb; rw [hb] at hnone; cases hnone
 ·by_cases e : b = M.size
  ·subst e
   simp only [Loc.add, if_true, Option.some.injEq, Prod.mk.injEq] at hb
   exact .inl (by omega)
  ·exfalso; unfold Loc.add at hb; rw [if_neg e] at hb; rw [hb] at hnone; cases hnone
 ·rw [Mem.get_push, if_neg (by have := h.bs; omega)]
 ·rw [alloc_get, if_neg (by omega)]
theorem Rep.write {φ : Loc} {M : Mem} {w w' : World} (h : Rep P idf φ M w) {b c K : Nat} (hb : φ b = some (c, K)) (hbase : M.base ≤ b) (hlive : M.get b ≠ some .dead) {o : AObj} {o' : Obj}
  (hw : w'.heap[c]? = some o') (ho : ORel P idf φ K o o') (hoth : ∀ k, k ≠ c → w'.heap[k]? = w.heap[k]?) (hsz : w'.heap.size = w.heap.size) (hos : w'.os = w.os) (htape : w'.tape = w.tape) (hout : w'.output = w.output) :
  Rep P idf φ (M.set b o) w' ∧ Stp φ M w φ (M.set b o) w' := by
 have hlt := (h.lt hb).1
 refine ⟨⟨h.bs, fun b₁ c₁ K₁ hb₁ => ?_, fun b₁ b₂ c₁ K₁ K₂ h1 h2 l1 l2 => ?_⟩, ⟨fun _ _ h => h, fun b x h h' => by (rw [h] at h'; cases h'), fun b c K h h' => by (rw [h] at h'; cases h'), rfl, by simp, fun b₁ hb₁ => ?_, fun k hk hall => ?_, by omega, hos, htape, hout⟩⟩
 ·rw [Mem.get_set _ _ _ hlt]
  by_cases e : b₁ = b
  ·subst e
   rw [hb] at hb₁; cases hb₁
   exact ⟨o, o', by rw [if_pos rfl], hw, ho⟩
  ·rw [if_neg e]
   obtain ⟨p, p', g1, g2, g3⟩ := h.obj b₁ c₁ K₁ hb₁
   by_cases ec : c₁ = c
   ·subst ec
    by_cases hd : M.get b₁ = some .dead
    ·exact ⟨.dead, o', hd, hw, .dead _⟩
    ·exact absurd (h.inj b₁ b c₁ K₁ K hb₁ hb hd hlive) e
   ·exact ⟨p, p', g1, by rw [hoth _ ec]; exact g2, g3⟩
 ·rw [Mem.get_set _ _ _ hlt] at l1 l2
  by_cases e1 : b₁ = b
  ·by_cases e2 : b₂ = b
   ·rw [e1, e2]
   ·rw [if_neg e2] at l2
    subst e1
    exact h.inj _ _ _ _ _ h1 h2 hlive l2
  ·rw [if_neg e1] at l1
   by_cases e2 : b₂ = b
   ·subst e2
    exact h.inj _ _ _ _ _ h1 h2 l1 hlive
   ·rw [if_neg e2] at l2
    exact h.inj _ _ _ _ _ h1 h2 l1 l2
 ·rw [Mem.get_set _ _ _ hlt, if_neg (by omega)]
 ·refine hoth k fun e => ?_
  subst e
  have := hall b K hb
  omega
theorem Rep.kill {φ : Loc} {M : Mem} {w : World} (h : Rep P idf φ M w) {b c K : Nat} (hb : φ b = some (c, K)) (hbase : M.base ≤ b) :
  Rep P idf φ (M.set b .dead) w ∧ Stp φ M w φ (M.set b .dead) w := by
 have hlt := (h.lt hb).1
 refine ⟨⟨h.bs, fun b₁ c₁ K₁ hb₁ => ?_, fun b₁ b₂ c₁ K₁ K₂ h1 h2 l1 l2 => ?_⟩, ⟨fun _ _ h => h, fun b x h h' => by (rw [h] at h'; cases h'), fun b c K h h' => by (rw [h] at h'; cases h'), rfl, by simp, fun b₁ hb₁ => ?_, fun k hk hall => rfl, Nat.le_refl _, rfl, rfl, rfl⟩⟩
 ·rw [Mem.get_set _ _ _ hlt]
  obtain ⟨p, p', g1, g2, g3⟩ := h.obj b₁ c₁ K₁ hb₁
  by_cases e : b₁ = b
  ·exact ⟨.dead, p', by rw [if_pos e], g2, .dead _⟩
  ·exact ⟨p, p', by rw [if_neg e]; exact g1, g2, g3⟩
 ·rw [Mem.get_set _ _ _ hlt] at l1 l2
  by_cases e1 : b₁ = b
  ·rw [if_pos e1] at l1; exact absurd rfl l1
  ·by_cases e2 : b₂ = b
   ·rw [if_pos e2] at l2; exact absurd rfl l2
   ·rw [if_neg e1] at l1; rw [if_neg e2] at l2
    exact h.inj _ _ _ _ _ h1 h2 l1 l2
 ·rw [Mem.get_set _ _ _ hlt, if_neg (by omega)]
theorem Rep.move {φ : Loc} {M : Mem} {w w' : World} (h : Rep P idf φ M w) {b c K : Nat} (hb : φ b = some (c, K)) (hbase : M.base ≤ b) (hlive : M.get b ≠ some .dead) {o : AObj} {o' : Obj}
  (hw : w'.heap[c]? = some o') (ho : ORel P idf (φ.add M.size (c, K)) K o o') (hoth : ∀ k, k ≠ c → w'.heap[k]? = w.heap[k]?) (hsz : w'.heap.size = w.heap.size) (hos : w'.os = w.os) (htape : w'.tape = w.tape) (hout : w'.output = w.output) :
  Rep P idf (φ.add M.size (c, K)) ((M.set b .dead).push o) w' ∧ Stp φ M w (φ.add M.size (c, K)) ((M.set b .dead).push o) w' := by
 have hlt := (h.lt hb).1
 have hn := h.none_size
 have he := Loc.add_ext (x := (c, K)) hn
 have old : ∀ b₁ c₁ K₁, φ.add M.size (c, K) b₁ = some (c₁, K₁) → b₁ ≠ M.size → φ b₁ = some (c₁, K₁) := by
  intro b₁ c₁ K₁ hb₁ hne
  unfold Loc.add at hb₁
  rwa [if_neg hne] at hb₁
 have hget : ∀ k, ((M.set b .dead).push o).get k = if k = M.size then some o else if k = b then some .dead else M.get k := by
  intro k
  rw [Mem.get_push, Mem.set_size, Mem.get_set _ _ _ hlt]
 refine ⟨⟨by have := h.bs; simp; omega, fun b₁ c₁ K₁ hb₁ => ?_, fun b₁ b₂ c₁ K₁ K₂ h1 h2 l1 l2 => ?_⟩, ⟨he, fun b₁ x hb₁ hnone => ?_, fun b₁ c₁ K₁ hb₁ hnone => ?_, rfl, by simp, fun b₁ hb₁ => ?_, fun k hk hall => ?_, by omega, hos, htape, hout⟩⟩
 ·rw [hget]
  by_cases e : b₁ = M.size
  ·subst e
   simp only [Loc.add, if_true, Option.some.injEq, Prod.mk.injEq] at hb₁
   obtain ⟨rfl, rfl⟩ := hb₁
   exact ⟨o, o', by rw [if_pos rfl], hw, ho⟩
  ·rw [if_neg e]
   have hb' := old _ _ _ hb₁ e
   by_cases eb : b₁ = b
   ·subst eb
    rw [hb] at hb'; cases hb'
    exact ⟨.dead, o', by rw [if_pos rfl], hw, .dead _⟩
   ·rw [if_neg eb]
    obtain ⟨p, p', g1, g2, g3⟩ := h.obj b₁ c₁ K₁ hb'
    by_cases ec : c₁ = c
    ·subst ec
     by_cases hd : M.get b₁ = some .dead
     ·exact ⟨.dead, o', hd, hw, .dead _⟩
     ·exact absurd (h.inj b₁ b c₁ K₁ K hb' hb hd hlive) eb
    ·exact ⟨p, p', g1, by rw [hoth _ ec]; exact g2, g3.mono he⟩
 ·rw [hget] at l1 l2
  by_cases e1 : b₁ = M.size
  ·by_cases e2 : b₂ = M.size
   ·rw [e1, e2]
   ·rw [if_neg e2] at l2
    by_cases eb : b₂ = b
    ·rw [if_pos eb] at l2; exact absurd rfl l2
    ·rw [if_neg eb] at l2
     subst e1
     simp only [Loc.add, if_true, Option.some.injEq, Prod.mk.injEq] at h1
     obtain ⟨rfl, rfl⟩ := h1
     exact absurd (h.inj _ _ _ _ _ (old _ _ _ h2 e2) hb l2 hlive) eb
  ·rw [if_neg e1] at l1
   by_cases eb1 : b₁ = b
   ·rw [if_pos eb1] at l1; exact absurd rfl l1
   ·rw [if_neg eb1] at l1
    by_cases e2 : b₂ = M.size
    ·subst e2
     simp only [Loc.add, if_true, Option.some.injEq, Prod.mk.injEq] at h2
     obtain ⟨rfl, rfl⟩ := h2
     exact absurd (h.inj _ _ _ _ _ (old _ _ _ h1 e1) hb l1 hlive) eb1
    ·rw [if_neg e2] at l2
     by_cases eb2 : b₂ = b
     ·rw [if_pos eb2] at l2; exact absurd rfl l2
     ·rw [if_neg eb2] at l2
      exact h.inj _ _ _ _ _ (old _ _ _ h1 e1) (old _ _ _ h2 e2) l1 l2
 ·by_cases e : b₁ = M.size
  ·subst e; simp
  ·exfalso; unfold Loc.add at hb₁; rw [if_neg e] at hb₁; rw [hb₁] at hnone; cases hnone
 ·by_cases e : b₁ = M.size
  ·subst e
   simp only [Loc.add, if_true, Option.some.injEq, Prod.mk.injEq] at hb₁
   obtain ⟨rfl, rfl⟩ := hb₁
   exact .inr ⟨b, K, hb, hbase⟩
  ·exfalso; unfold Loc.add at hb₁; rw [if_neg e] at hb₁; rw [hb₁] at hnone; cases hnone
 ·rw [hget, if_neg (by have := h.bs; omega), if_neg (by omega)]
 ·refine hoth k fun e => ?_
  subst e
  have := hall b K hb
  omega
theorem addr_add (c off n : Nat) : (⟨c, off, none⟩ : Addr).add n = ⟨c, off + n, none⟩ := by unfold Addr.add; split <;> simp_all
theorem Rep.cells {φ : Loc} {M : Mem} {w : World} (h : Rep P idf φ M w) {b c K : Nat} (hb : φ b = some (c, K)) {cs : List Value} {t : TypeId} {wr : Bool} (hg : M.get b = some (.cells cs t wr)) :
  ∃ c' fr, w.heap[c]? = some (.cells c' t fr) ∧ cs.length ≤ c'.size ∧ LRel φ cs (c'.toList.take cs.length) ∧ cs.all Value.oneCell' = true ∧ (wr = true → fr = (0, 0)) ∧ K * P.cellsOf t ≤ c'.size := by
 obtain ⟨o, o', g1, g2, g3⟩ := h.obj b c K hb
 rw [hg] at g1; cases g1
 cases g3 with
 | cells _ _ _ c' fr hl hr ho hw hK => exact ⟨c', fr, g2, hl, hr, ho, hw, hK⟩
theorem Rep.view {φ : Loc} {M : Mem} {w : World} (h : Rep P idf φ M w) {b c K : Nat} (hb : φ b = some (c, K)) {cs : List (Option Value)} (hg : M.get b = some (.view cs)) :
  ∃ t c' fr, w.heap[c]? = some (.cells c' t fr) ∧ cs.length ≤ c'.size ∧ ∀ (i : Nat) (v : Value), cs[i]? = some (some v) → v.oneCell' = true ∧ ∃ y, c'.toList[i]? = some y ∧ VRel φ v y := by
 obtain ⟨o, o', g1, g2, g3⟩ := h.obj b c K hb
 rw [hg] at g1; cases g1
 cases g3 with
 | view _ t c' fr hl hr => exact ⟨t, c', fr, g2, hl, hr⟩
theorem allSome_get : ∀ {l : List (Option Value)} {r : List Value}, allSome l = some r → r.length = l.length ∧ ∀ (i : Nat) (v : Value), r[i]? = some v → l[i]? = some (some v)
 | [], r, h => by simp [allSome] at h; subst h; simp
 | none :: l, r, h => by simp [allSome] at h
 | some x :: l, r, h => by
  simp only [allSome] at h
  split at h
  ·rename_i q hq
   cases h
   obtain ⟨h1, h2⟩ := allSome_get hq
   refine ⟨by simp [h1], fun i v hi => ?_⟩
   cases i with
   | zero => simpa using hi
   | succ i => simp at hi ⊢; exact h2 i v hi
  ·cases h
theorem view_rel {φ : Loc} {l : List (Option Value)} {c' : List Value} (hlen : l.length ≤ c'.length) (h : ∀ (i : Nat) (v : Value), l[i]? = some (some v) → v.oneCell' = true ∧ ∃ y, c'[i]? = some y ∧ VRel φ v y) {off n : Nat} (hle : off + n ≤ l.length) {cs : List Value} (hg : allSome ((l.drop off).take n) = some cs) :
  LRel φ cs ((c'.drop off).take n) ∧ cs.length = n ∧ cs.all Value.oneCell' = true := by
 obtain ⟨h1, h2⟩ := allSome_get hg
 have hn : cs.length = n := by rw [h1]; simp; omega
 have key : ∀ (i : Nat) (v : Value), cs[i]? = some v → v.oneCell' = true ∧ ∃ y, ((c'.drop off).take n)[i]? = some y ∧ VRel φ v y := by
  intro i v hi
  have hin : i < n := by rw [← hn]; exact (List.getElem?_eq_some_iff.1 hi).1
  have := h2 i v hi
  rw [List.getElem?_take, if_pos hin, List.getElem?_drop] at this
  obtain ⟨a, y, b, c⟩ := h _ v this
  exact ⟨a, y, by rw [List.getElem?_take, if_pos hin, List.getElem?_drop]; exact b, c⟩
 refine ⟨LRel.of_idx _ _ (by rw [hn]; simp; omega) fun i x y hx hy => ?_, hn, ?_⟩
 ·obtain ⟨_, y', h3, h4⟩ := key i x hx
  rw [hy] at h3; cases h3; exact h4
 ·simp only [List.all_eq_true]
  intro x hx
  obtain ⟨i, hi⟩ := List.getElem?_of_mem hx
  exact (key i x hi).1
theorem Rep.loadN {φ : Loc} {M : Mem} {w : World} (h : Rep P idf φ M w) {b c K off n : Nat} (hb : φ b = some (c, K)) {cs : List Value} (hg : M.loadN b off n = some cs) :
  ∃ cs' : List Value, LRel φ cs cs' ∧ cs.length = n ∧ cs.all Value.oneCell' = true ∧ (loadCells ⟨c, off, none⟩ n).run P w = .ok cs'.toArray w := by
 unfold Mem.loadN at hg
 split at hg
 ·rename_i l t wr hget
  split at hg
  ·rename_i hle
   cases hg
   obtain ⟨c', fr, g2, hl, hr, ho, hw, hK⟩ := h.cells hb hget
   have hlen : ((l.drop off).take n).length = n := by simp; omega
   have hrel : LRel φ ((l.drop off).take n) ((c'.toList.drop off).take n) := by
    have := (hr.drop off).take n
    rw [List.drop_take, List.take_take] at this
    rwa [show min n (l.length - off) = n by omega] at this
   refine ⟨_, hrel, hlen, ?_, ?_⟩
   ·simp only [List.all_eq_true] at ho ⊢
    exact fun x hx => ho x (List.mem_of_mem_drop (List.mem_of_mem_take hx))
   ·have := run_loadCells_list (P := P) w ⟨c, off, none⟩ ((c'.toList.drop off).take n) (fun j v hv => by
     rw [addr_add, cell_of_row w c _ c' t fr g2]
     rw [List.getElem?_take] at hv
     split at hv
     ·simpa using hv
     ·cases hv)
    rwa [← hrel.length, hlen] at this
  ·cases hg
 ·rename_i l hget
  split at hg
  ·rename_i hle
   obtain ⟨t, c', fr, g2, hl, hr⟩ := h.view hb hget
   obtain ⟨hrel, hlen, hone⟩ := view_rel (by simpa using hl) hr hle hg
   refine ⟨_, hrel, hlen, hone, ?_⟩
   have := run_loadCells_list (P := P) w ⟨c, off, none⟩ ((c'.toList.drop off).take n) (fun j v hv => by
    rw [addr_add, cell_of_row w c _ c' t fr g2]
    rw [List.getElem?_take] at hv
    split at hv
    ·simpa using hv
    ·cases hv)
   rwa [← hrel.length, hlen] at this
  ·cases hg
 ·cases hg
theorem Rep.load1 {φ : Loc} {M : Mem} {w : World} (h : Rep P idf φ M w) {b c K off : Nat} (hb : φ b = some (c, K)) {v : Value} (hg : M.load1 b off = some v) :
  ∃ v', VRel φ v v' ∧ v.oneCell' = true ∧ w.cell? ⟨c, off, none⟩ = some v' := by
 unfold Mem.load1 at hg
 split at hg
 ·rename_i l t wr hget
  obtain ⟨c', fr, g2, hl, hr, ho, hw, hK⟩ := h.cells hb hget
  obtain ⟨v', h1, h2⟩ := hr.get hg
  have hoff : off < l.length := (List.getElem?_eq_some_iff.1 hg).1
  refine ⟨v', h2, ?_, ?_⟩
  ·simp only [List.all_eq_true] at ho
   exact ho v (List.mem_of_getElem? hg)
  ·rw [cell_of_row w c _ c' t fr g2]
   rw [List.getElem?_take, if_pos hoff] at h1
   simpa using h1
 ·rename_i l hget
  split at hg
  ·rename_i x hx
   cases hg
   obtain ⟨t, c', fr, g2, hl, hr⟩ := h.view hb hget
   obtain ⟨a, y, b, c2⟩ := hr _ _ hx
   refine ⟨y, c2, a, ?_⟩
   rw [cell_of_row w c _ c' t fr g2]
   simpa using b
  ·cases hg
 ·cases hg
theorem splice_length {c vs : List Value} {off : Nat} (h : off + vs.length ≤ c.length) : (splice c off vs).length = c.length := by
 unfold splice; simp; omega
theorem splice_rel {φ : Loc} {c c' vs vs' : List Value} (h : LRel φ c c') (hv : LRel φ vs vs') (off : Nat) : LRel φ (splice c off vs) (splice c' off vs') := by
 unfold splice
 rw [hv.length]
 exact ((h.take _).append hv).append (h.drop _)
theorem splice_take {c vs : List Value} {off n : Nat} (h : off + vs.length ≤ n) : (splice c off vs).take n = splice (c.take n) off vs := by
 unfold splice
 rw [List.take_append, List.take_append, List.length_append, List.take_of_length_le (by simp; omega : (c.take off).length ≤ n)]
 rw [List.take_of_length_le (by simp; omega : vs.length ≤ n - (c.take off).length)]
 rw [List.take_take, List.drop_take, show min off n = off by omega]
 congr 1
 by_cases hc : off ≤ c.length
 ·simp only [List.length_take]
  rw [show n - (min off c.length + vs.length) = n - (off + vs.length) by omega]
 ·rw [List.drop_of_length_le (by omega : c.length ≤ off + vs.length)]
  simp
theorem splice_all {c vs : List Value} {off : Nat} (h : c.all Value.oneCell' = true) (hv : vs.all Value.oneCell' = true) : (splice c off vs).all Value.oneCell' = true := by
 unfold splice
 simp only [List.all_eq_true, List.mem_append] at *
 rintro x ((hx | hx) | hx)
 ·exact h x (List.mem_of_mem_take hx)
 ·exact hv x hx
 ·exact h x (List.mem_of_mem_drop hx)
theorem Rep.storeN {φ : Loc} {M M' : Mem} {w : World} (h : Rep P idf φ M w) {b c K off : Nat} (hb : φ b = some (c, K)) {vs vs' : List Value} (hv : LRel φ vs vs') (h3 : vs.all Value.oneCell' = true) (hg : M.storeN b off vs = some M') :
  ∃ w', (storeCells ⟨c, off, none⟩ vs').run P w = .ok () w' ∧ Rep P idf φ M' w' ∧ Stp φ M w φ M' w' := by
 unfold Mem.storeN at hg
 split at hg
 ·rename_i l t hget
  split at hg
  ·rename_i hc
   obtain ⟨h1, h2⟩ := hc
   cases hg
   obtain ⟨c', fr, g2, hl, hr, ho, hw, hK⟩ := h.cells hb hget
   obtain rfl := hw rfl
   have hst := run_storeCells_at P c off t vs' 0 c' w g2 (by rw [← hv.length]; omega) (hv.oneCell h3)
   refine ⟨_, hst, h.write hb h1 (by rw [hget]; simp) (o' := .cells (c'.toList.take (off + 0) ++ vs' ++ c'.toList.drop (off + 0 + vs'.length)).toArray t (0, 0)) (setRow_heap w c c' _ t _ g2) ?_ (fun k hk => setRow_other w c k _ hk) (by simp) rfl rfl rfl⟩
   have e : c'.toList.take (off + 0) ++ vs' ++ c'.toList.drop (off + 0 + vs'.length) = splice c'.toList off vs' := by simp [splice]
   rw [e]
   refine .cells _ _ _ _ _ ?_ ?_ (splice_all ho h3) (fun _ => rfl) ?_
   ·rw [splice_length h2]; simp only [List.size_toArray]; rw [splice_length (by simp; rw [← hv.length]; omega)]; simpa using hl
   ·rw [splice_length h2]
    simp only [List.toList_toArray]
    rw [splice_take (by rw [← hv.length]; omega)]
    exact splice_rel hr hv off
   ·simp only [List.size_toArray]; rw [splice_length (by simp; rw [← hv.length]; omega)]; simpa using hK
  ·cases hg
 ·cases hg
theorem sameV_rel {φ : Loc} {a b a' b' : Value} (h : sameV a b = true) (ha : VRel φ a a') (hb : VRel φ b b') : a' = b' := by
 unfold sameV at h
 split at h
 ·simp only [Bool.and_eq_true, decide_eq_true_eq] at h
  obtain ⟨rfl, rfl⟩ := h
  cases ha; cases hb; rfl
 ·simp only [decide_eq_true_eq] at h
  subst h
  cases ha; cases hb; rfl
 ·cases h
theorem sameL_rel {φ : Loc} : ∀ {vs us vs' us' : List Value}, sameL vs us = true → LRel φ vs vs' → LRel φ us us' → vs' = us'
 | [], [], _, _, _, .nil, .nil => rfl
 | a :: x, b :: y, _, _, h, .cons ha hx, .cons hb hy => by
  simp only [sameL, Bool.and_eq_true] at h
  rw [sameV_rel h.1 ha hb, sameL_rel h.2 hx hy]
 | [], _ :: _, _, _, h, _, _ => by cases h
 | _ :: _, [], _, _, h, _, _ => by cases h
theorem Rep.storeQ {φ : Loc} {M M' : Mem} {w : World} (h : Rep P idf φ M w) {b c K off : Nat} (hb : φ b = some (c, K)) {vs vs' : List Value} (hv : LRel φ vs vs') (h3 : vs.all Value.oneCell' = true) (hg : M.storeQ b off vs = some M') :
  ∃ w', (storeCells ⟨c, off, none⟩ vs').run P w = .ok () w' ∧ Rep P idf φ M' w' ∧ Stp φ M w φ M' w' := by
 unfold Mem.storeQ at hg
 split at hg
 ·rename_i M2 hst
  cases hg
  exact h.storeN hb hv h3 hst
 ·split at hg
  ·rename_i hs
   cases hg
   unfold Mem.sameN at hs
   split at hs
   ·rename_i cs t hget
    simp only [Bool.and_eq_true, decide_eq_true_eq] at hs
    obtain ⟨h2, hs⟩ := hs
    obtain ⟨c', fr, g2, hl, hr, ho, hw, hK⟩ := h.cells hb hget
    obtain rfl := hw rfl
    have hlen := hv.length
    have hst := run_storeCells_at P c off t vs' 0 c' w g2 (by omega) (hv.oneCell h3)
    have e1 : ((c'.toList.take cs.length).drop off).take vs.length = (c'.toList.drop off).take vs'.length := by
     rw [List.drop_take, List.take_take, ← hlen, show min vs.length (cs.length - off) = vs.length by omega]
    have e : vs' = (c'.toList.drop off).take vs'.length := by
     rw [← e1]; exact sameL_rel hs hv ((hr.drop off).take vs.length)
    have e2 : (c'.toList.take (off + 0) ++ vs' ++ c'.toList.drop (off + 0 + vs'.length)).toArray = c' := by
     apply Array.ext'
     have e3 : c'.toList.take off ++ ((c'.toList.drop off).take vs'.length ++ (c'.toList.drop off).drop vs'.length) = c'.toList := by rw [List.take_append_drop, List.take_append_drop]
     rw [← e, List.drop_drop] at e3
     simpa using e3
    refine ⟨w, ?_, h, Stp.refl _ _ _⟩
    rw [hst, e2, setRow_self w c c' t (0, 0) g2]
   ·cases hs
  ·cases hg
end
end Go.Proofs.Ytifemfnjoobiiaa.Run
