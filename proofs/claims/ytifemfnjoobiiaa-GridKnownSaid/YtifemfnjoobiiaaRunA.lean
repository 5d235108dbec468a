/- An interpreter of this session's own: a small machine language, into which functions of the program are compiled, and its runs over a small memory. No statement of the program's is proved here. -/
import Derived.RangeFuncLeaves
import Derived.OrdersIn
import Derived.Below
import Derived.KernelRfl
import Derived.Laws.StructEq
namespace Go.Proofs.Ytifemfnjoobiiaa.Run
open Go Go.RowKit
set_option linter.unusedVariables false
set_option linter.unusedSimpArgs false
inductive MOp where
 | val (x : Operand)
 | pick (c a b : Operand)
 | box (t : TypeId) (x : Operand)
 | build (z : List Value) (ps : List (Nat × Nat × Operand))
 | lit (t : TypeId) (len : Nat) (z : List Value) (ps : List (Nat × Nat × Operand))
 | load (n : Option Nat) (a : Operand)
 | store (n : Nat) (a x : Operand)
 | nilCheck (x : Operand)
 | bin (op : BinOp) (k : Nat) (sg : List Nat) (x y : Operand)
 | un (op : UnOp) (x : Operand)
 | convI (k : IntKind) (x : Operand)
 | convS (x : Operand)
 | castP (u : TypeId) (n : Nat) (x : Operand)
 | mkIface (t : TypeId) (x : Operand)
 | mkFunc (fn : Fn) (first captured : List Operand)
 | mkMap
 | mkSlice (t : TypeId) (bytes : Nat) (z : List Value) (len cap : Operand)
 | sliceS (x : Operand) (lo hi : Option Operand)
 | sliceL (size : Nat) (x : Operand) (lo hi mx : Option Operand)
 | sliceA (n size : Nat) (x : Operand) (lo hi mx : Option Operand)
 | fieldAddr (off : Nat) (x : Operand)
 | field (n : Option Nat) (off : Nat) (x : Operand)
 | addrA (len size : Nat) (x i : Operand)
 | addrL (size : Nat) (x i : Operand)
 | idxA (len : Nat) (n : Option Nat) (size : Nat) (x i : Operand)
 | idxS (x i : Operand)
 | lookup (z : Value) (ok ag : Bool) (sg : List Nat) (m k : Operand)
 | mapUpd (ag : Bool) (sg : List Nat) (m k x : Operand)
 | rangeS (x : Operand)
 | nextS (x : Operand)
 | rangeM (x : Operand)
 | nextM (x : Operand)
 | never
 | entryM (x : Operand)
 | extract (x : Operand) (i : Nat)
 | call (f : Operand) (args : List Operand)
 | ident (x : Operand)
 | append (t : TypeId) (bytes size : Nat) (str : Bool) (s x : Operand)
 | copy (size : Nat) (d s : Operand)
 | lenA (n : Nat) (x : Operand)
 | len (kd : Nat) (x : Operand)
 | capA (n : Nat) (x : Operand)
 | cap (x : Operand)
 | minmax (mx : Bool) (x : Operand) (xs : List Operand)
 | delete (ag : Bool) (sg : List Nat) (m k : Operand)
 | sliceData (x : Operand)
 | uString (u : TypeId) (p n : Operand)
 | ptrU (x : Operand)
 | boxD
 | fill (n : Nat) (t : TypeId) (a x : Operand)
 | appZ (t : TypeId) (bytes size : Nat) (s x : Operand)
 | noZero (t : TypeId) (x : Operand)
structure MOper where
 dst : Option Tmp
 guard : Option (Tmp × Bool)
 q : Nat
 op : MOp
inductive MCode where
 | skip
 | region (draw : Bool) (ops : List MOper)
 | seq (a b : MCode)
 | cond (c : Operand) (a b : MCode)
 | block (id : Nat) (c : MCode)
 | loop (c : MCode)
 | loopM (it nx ok : Tmp) (id : Nat) (c : MCode)
 | rangeFunc (f : Operand) (ps : List Tmp) (assign body : MCode)
 | exit (id : Nat)
 | ret
inductive RVar where
 | tmp (t : Tmp)
 | cell (t : Tmp) (n : Option Nat)
structure MFunc where
 ntmps : Nat
 res : List RVar
 body : MCode
inductive XE where
 | normal
 | exit (id : Nat)
 | ret
inductive AObj where
 | cells (c : List Value) (t : TypeId) (wr : Bool)
 | map (es : List MapEntry) (clock : Nat)
 | siter (s : ByteArray) (pos : Nat)
 | miter (m : Option Nat)
 | miterL (m since : Nat) (seen : Array Nat) (last : Nat)
 | loop (st : LoopState) (pend : Option XE) (tmps : List Value) (ps : List Tmp) (assign body : MCode) (d : Nat)
 | dblk
 | dead
 | view (c : List (Option Value))
inductive Tr where
 | e
 | n (v : Option AObj) (l r : Tr)
def Tr.get : Tr → Nat → Option AObj
 | .e, _ => none
 | .n v l r, i => if i = 0 then v else if i % 2 = 1 then l.get (i / 2) else r.get (i / 2 - 1)
def Tr.ins : Nat → Tr → Nat → AObj → Tr
 | 0, t, _, _ => t
 | f + 1, .e, i, o => if i = 0 then .n (some o) .e .e else if i % 2 = 1 then .n none (Tr.ins f .e (i / 2) o) .e else .n none .e (Tr.ins f .e (i / 2 - 1) o)
 | f + 1, .n v l r, i, o => if i = 0 then .n (some o) l r else if i % 2 = 1 then .n v (Tr.ins f l (i / 2) o) r else .n v l (Tr.ins f r (i / 2 - 1) o)
structure Mem where
 base : Nat
 size : Nat
 tr : Tr
def Mem.get (M : Mem) (b : Nat) : Option AObj := if b < M.size then M.tr.get b else none
def Mem.set (M : Mem) (b : Nat) (o : AObj) : Mem := { M with tr := M.tr.ins M.size b o }
def Mem.push (M : Mem) (o : AObj) : Mem := { M with size := M.size + 1, tr := M.tr.ins (M.size + 1) M.size o }
def Mem.freeze (M : Mem) : Mem := { M with base := M.size }
def Mem.thaw (M : Mem) (b : Nat) : Mem := { M with base := b }
theorem Tr.get_ins (f : Nat) : ∀ (t : Tr) (i j : Nat) (o : AObj), i < f → (Tr.ins f t i o).get j = if j = i then some o else t.get j := by
 induction f with
 | zero => intro t i j o h; omega
 | succ f ih =>
  intro t i j o h
  cases t with
  | e =>
   simp only [Tr.ins]
   by_cases h0 : i = 0
   ·subst h0
    simp only [if_true, Tr.get]
    by_cases hj : j = 0
    ·simp [hj]
    ·simp only [hj, if_false]; split <;> rfl
   ·rw [if_neg h0]
    by_cases h1 : i % 2 = 1
    ·rw [if_pos h1]; simp only [Tr.get]
     by_cases hj : j = 0
     ·subst hj; simp; omega
     ·rw [if_neg hj]
      by_cases hj1 : j % 2 = 1
      ·rw [if_pos hj1, ih _ _ _ _ (by omega)]; simp only [Tr.get]
       by_cases e : j = i
       ·subst e; simp
       ·rw [if_neg e, if_neg (by omega)]
      ·rw [if_neg hj1, if_neg (by rintro rfl; exact hj1 h1)]
    ·rw [if_neg h1]; simp only [Tr.get]
     by_cases hj : j = 0
     ·subst hj; simp; omega
     ·rw [if_neg hj]
      by_cases hj1 : j % 2 = 1
      ·rw [if_pos hj1, if_neg (by rintro rfl; exact h1 hj1)]
      ·rw [if_neg hj1, ih _ _ _ _ (by omega)]; simp only [Tr.get]
       by_cases e : j = i
       ·subst e; simp
       ·rw [if_neg e, if_neg (by omega)]
  | n v l r =>
   simp only [Tr.ins]
   by_cases h0 : i = 0
   ·subst h0
    simp only [if_true, Tr.get]
    by_cases hj : j = 0
    ·simp [hj]
    ·simp only [hj, if_false]
   ·rw [if_neg h0]
    by_cases h1 : i % 2 = 1
    ·rw [if_pos h1]; simp only [Tr.get]
     by_cases hj : j = 0
     ·subst hj; rw [if_pos rfl, if_neg (by omega), if_pos rfl]
     ·rw [if_neg hj, if_neg hj]
      by_cases hj1 : j % 2 = 1
      ·rw [if_pos hj1, if_pos hj1, ih _ _ _ _ (by omega)]
       by_cases e : j = i
       ·subst e; simp
       ·rw [if_neg e, if_neg (by omega)]
      ·rw [if_neg hj1, if_neg hj1, if_neg (by rintro rfl; exact hj1 h1)]
    ·rw [if_neg h1]; simp only [Tr.get]
     by_cases hj : j = 0
     ·subst hj; rw [if_pos rfl, if_neg (by omega), if_pos rfl]
     ·rw [if_neg hj, if_neg hj]
      by_cases hj1 : j % 2 = 1
      ·rw [if_pos hj1, if_pos hj1, if_neg (by rintro rfl; exact h1 hj1)]
      ·rw [if_neg hj1, if_neg hj1, ih _ _ _ _ (by omega)]
       by_cases e : j = i
       ·subst e; simp
       ·rw [if_neg e, if_neg (by omega)]
section mem
variable (M : Mem)
@[simp] theorem Mem.push_size (o : AObj) : (M.push o).size = M.size + 1 := rfl
@[simp] theorem Mem.set_size (b : Nat) (o : AObj) : (M.set b o).size = M.size := rfl
@[simp] theorem Mem.push_base (o : AObj) : (M.push o).base = M.base := rfl
@[simp] theorem Mem.set_base (b : Nat) (o : AObj) : (M.set b o).base = M.base := rfl
@[simp] theorem Mem.freeze_size : M.freeze.size = M.size := rfl
@[simp] theorem Mem.freeze_base : M.freeze.base = M.size := rfl
@[simp] theorem Mem.thaw_size (b : Nat) : (M.thaw b).size = M.size := rfl
@[simp] theorem Mem.thaw_base (b : Nat) : (M.thaw b).base = b := rfl
@[simp] theorem Mem.freeze_get (b : Nat) : M.freeze.get b = M.get b := rfl
@[simp] theorem Mem.thaw_get (c b : Nat) : (M.thaw c).get b = M.get b := rfl
theorem Mem.lt_of_get {M : Mem} {b : Nat} {o : AObj} (h : M.get b = some o) : b < M.size := by
 unfold Mem.get at h; split at h
 ·assumption
 ·cases h
theorem Mem.get_push (o : AObj) (b : Nat) : (M.push o).get b = if b = M.size then some o else M.get b := by
 unfold Mem.get Mem.push
 simp only
 rw [Tr.get_ins _ _ _ _ _ (Nat.lt_succ_self _)]
 by_cases e : b = M.size
 ·subst e; simp
 ·simp only [if_neg e]
  by_cases hb : b < M.size
  ·rw [if_pos hb, if_pos (by omega)]
  ·rw [if_neg hb, if_neg (by omega)]
theorem Mem.get_set (b : Nat) (o : AObj) (h : b < M.size) (c : Nat) : (M.set b o).get c = if c = b then some o else M.get c := by
 unfold Mem.get Mem.set
 simp only
 rw [Tr.get_ins _ _ _ _ _ h]
 by_cases e : c = b
 ·subst e; simp [h]
 ·simp only [if_neg e]
end mem
def splice (c : List Value) (off : Nat) (vs : List Value) : List Value := c.take off ++ vs ++ c.drop (off + vs.length)
def allSome : List (Option Value) → Option (List Value)
 | [] => some []
 | none :: _ => none
 | some v :: l => match allSome l with
  | some r => some (v :: r)
  | none => none
def Mem.loadN (M : Mem) (b off n : Nat) : Option (List Value) :=
 match M.get b with
 | some (.cells c _ _) => if off + n ≤ c.length then some ((c.drop off).take n) else none
 | some (.view c) => if off + n ≤ c.length then allSome ((c.drop off).take n) else none
 | _ => none
def Mem.load1 (M : Mem) (b off : Nat) : Option Value :=
 match M.get b with
 | some (.cells c _ _) => c[off]?
 | some (.view c) => match c[off]? with
  | some (some v) => some v
  | _ => none
 | _ => none
def Mem.storeN (M : Mem) (b off : Nat) (vs : List Value) : Option Mem :=
 match M.get b with
 | some (.cells c t true) => if M.base ≤ b ∧ off + vs.length ≤ c.length then some (M.set b (.cells (splice c off vs) t true)) else none
 | _ => none
def sameV : Value → Value → Bool
 | .int j a, .int k b => decide (j = k) && decide (a = b)
 | .bool a, .bool b => decide (a = b)
 | _, _ => false
def sameL : List Value → List Value → Bool
 | [], [] => true
 | a :: x, b :: y => sameV a b && sameL x y
 | _, _ => false
def Mem.sameN (M : Mem) (b off : Nat) (vs : List Value) : Bool :=
 match M.get b with
 | some (.cells c _ true) => decide (off + vs.length ≤ c.length) && sameL vs ((c.drop off).take vs.length)
 | _ => false
def Mem.storeQ (M : Mem) (b off : Nat) (vs : List Value) : Option Mem :=
 match M.storeN b off vs with
 | some M' => some M'
 | none => if M.sameN b off vs then some M else none
def notTup : Value → Bool
 | .tuple _ => false
 | _ => true
def ev (t : List Value) : Operand → Value
 | .tmp i => t.getD i undef
 | .const v => v
 | .global _ => undef
 | .func f => .func (.func f) #[] #[]
def guardOk (t : List Value) : Option (Tmp × Bool) → Bool
 | none => true
 | some (i, b) => match t[i]? with | some (.bool c) => c == b | _ => false
def cellEq : Nat → Value → Value → Option Bool
 | 0, .int j a, .int k b => if j = k then some (a == b) else none
 | 1, .bool a, .bool b => some (a == b)
 | 2, .string a, .string b => some (a.toList == b.toList)
 | _, _, _ => none
def eqCells : List Nat → List Value → List Value → Option Bool
 | [], [], [] => some true
 | s :: ss, x :: xs, y :: ys => match cellEq s x y with
  | some true => eqCells ss xs ys
  | r => r
 | _, _, _ => none
def eqV (ag : Bool) (sg : List Nat) (x y : Value) : Option Bool :=
 if ag then
  match x, y with
  | .agg a, .agg b => if a.size = sg.length ∧ b.size = sg.length then eqCells sg a.toList b.toList else none
  | _, _ => none
 else eqCells sg [x] [y]
def keyOk (ag : Bool) (sg : List Nat) (k : Value) : Bool :=
 if ag then
  match k with
  | .agg a => a.size == sg.length
  | _ => false
 else true
def intOp (op : BinOp) (k : IntKind) (x y : Int) : Option Value :=
 match op with
 | .add => some (.int k (k.wrap (x + y)))
 | .sub => some (.int k (k.wrap (x - y)))
 | .mul => some (.int k (k.wrap (x * y)))
 | .quo => if y = 0 then none else some (.int k (k.wrap (x.tdiv y)))
 | .rem => if y = 0 then none else some (.int k (x.tmod y))
 | .and => some (.int k (k.wrap (BitVec.ofInt k.bits x &&& BitVec.ofInt k.bits y).toNat))
 | .or => some (.int k (k.wrap (BitVec.ofInt k.bits x ||| BitVec.ofInt k.bits y).toNat))
 | .xor => some (.int k (k.wrap (BitVec.ofInt k.bits x ^^^ BitVec.ofInt k.bits y).toNat))
 | .andNot => some (.int k (k.wrap (BitVec.ofInt k.bits x &&& ~~~ BitVec.ofInt k.bits y).toNat))
 | .eql => some (.bool (x == y))
 | .neq => some (.bool (x != y))
 | .lss => some (.bool (decide (x < y)))
 | .leq => some (.bool (decide (x ≤ y)))
 | .gtr => some (.bool (decide (x > y)))
 | .geq => some (.bool (decide (x ≥ y)))
 | _ => none
def shOp (op : BinOp) (k : IntKind) (x y : Int) : Option Value :=
 if y < 0 then none else
 match op with
 | .shl => some (.int k (k.wrap (x * 2 ^ (min y.toNat k.bits))))
 | .shr => some (.int k (x.fdiv (2 ^ (min y.toNat k.bits))))
 | _ => none
def strOp (op : BinOp) (x y : ByteArray) : Option Value :=
 match op with
 | .add => if x.size + y.size < 2 ^ 62 then some (.string (x ++ y)) else none
 | .eql => some (.bool (x.toList == y.toList))
 | .neq => some (.bool !(x.toList == y.toList))
 | .lss => some (.bool (Op.bytesLess x.toList y.toList))
 | _ => none
def isShift : BinOp → Bool
 | .shl | .shr => true
 | _ => false
def negIf (op : BinOp) (b : Bool) : Option Value :=
 match op with
 | .eql => some (.bool b)
 | .neq => some (.bool !b)
 | _ => none
def binV (op : BinOp) (kd : Nat) (sg : List Nat) : Value → Value → Option Value
 | .int k a, .int k' b => if isShift op then shOp op k a b else if k = k' then intOp op k a b else none
 | .string a, .string b => strOp op a b
 | .bool a, .bool b => if kd = 1 then negIf op (a == b) else none
 | .agg a, .agg b => if kd = 2 then (eqV true sg (.agg a) (.agg b)).bind (negIf op) else none
 | .pointer none, .pointer b => if kd = 3 then negIf op b.isNone else none
 | .pointer (some _), .pointer none => if kd = 3 then negIf op false else none
 | .pointer (some a), .pointer (some b) => if kd = 3 ∧ a.block = b.block then negIf op (a.off == b.off) else none
 | .slice none _ _, .slice b _ _ => if kd = 4 then negIf op b.isNone else none
 | .slice (some _) _ _, .slice none _ _ => if kd = 4 then negIf op false else none
 | .map none, .map b => if kd = 5 then negIf op b.isNone else none
 | .map (some _), .map none => if kd = 5 then negIf op false else none
 | .nilFunc, .nilFunc => if kd = 6 then negIf op true else none
 | .nilFunc, .func _ _ _ => if kd = 6 then negIf op false else none
 | .func _ _ _, .nilFunc => if kd = 6 then negIf op false else none
 | _, _ => none
def unV (op : UnOp) : Value → Option Value
 | .int k n => match op with
  | .neg => some (.int k (k.wrap (0 - n)))
  | .xor => some (.int k (k.wrap (BitVec.ofInt k.bits (if k.signed then -1 else k.max) ^^^ BitVec.ofInt k.bits n).toNat))
  | _ => none
 | .bool b => match op with
  | .not => some (.bool !b)
  | _ => none
 | _ => none
def fillL (cells : List Value) : List (Nat × Nat × Value) → Option (List Value)
 | [] => some cells
 | (off, size, v) :: r => if v.cells.size = size ∧ off + size ≤ cells.length ∧ notTup v = true then fillL (splice cells off v.cells.toList) r else none
def partV (n : Option Nat) (c : List Value) (off : Nat) : Option Value :=
 match n with
 | some n => if off + n ≤ c.length then some (.agg ((c.drop off).take n).toArray) else none
 | none => c[off]?
def findK (ag : Bool) (sg : List Nat) (k : Value) : List MapEntry → Nat → Option (Option (Nat × Value))
 | [], _ => some none
 | e :: es, i => match eqV ag sg k e.key with
  | some true => some (some (i, e.val))
  | some false => findK ag sg k es (i + 1)
  | none => none
def boundV (x : Value) (y : Nat) : Option Nat :=
 match x with
 | .int _ i => if 0 ≤ i ∧ i ≤ y then some i.toNat else none
 | _ => none
def optBound (x : Option Value) (d y : Nat) : Option Nat :=
 match x with
 | some v => boundV v y
 | none => some d
def bounds (len cap : Nat) (lo hi mx : Option Value) : Option (Nat × Nat × Nat) :=
 (optBound mx cap cap).bind fun m => (optBound hi len m).bind fun h => (optBound lo 0 h).bind fun l =>
  if mx.isSome ∧ hi.isNone then none else some (l, h, m)
def minmaxV (mx : Bool) : Value → List Value → Option Value
 | x, [] => some x
 | .int k a, .int _ b :: r => minmaxV mx (.int k (if mx then (if b > a then b else a) else (if b < a then b else a))) r
 | _, _ => none
def srcOf (M : Mem) (size : Nat) : Value → Nat → Option (List Value)
 | .slice (some a) _ _, n => M.loadN a.block a.off (n * size)
 | .slice none _ _, _ => some []
 | .string s, n => if size = 1 then some ((s.extract 0 n).data.toList.map fun b => .int .u8 b.toNat) else none
 | _, _ => none
def isStr : Value → Bool
 | .string _ => true
 | _ => false
def lenV : Value → Option Nat
 | .slice _ n _ => some n
 | .string s => some s.size
 | .chan (some _) => some 0
 | _ => none
def appendV (M : Mem) (t : TypeId) (bytes size : Nat) (s x : Value) : Option (Value × Mem) :=
 match s, lenV x with
 | .slice base len cap, some n =>
  if n = 0 then some (s, M)
  else match srcOf M size x n with
  | none => none
  | some new =>
   if len + n ≤ 2 ^ 40 ∧ (len + n) * bytes ≤ 2 ^ 40 then
    match base with
    | none => some (.slice (some ⟨M.size, 0, none⟩) n n, M.push (.cells new t true))
    | some ⟨b, off, some _⟩ =>
     if len + n ≤ cap then (M.storeN b (off + len * size) new).map fun M' => (.slice base (len + n) cap, M')
     else (M.loadN b off (len * size)).map fun old => (.slice (some ⟨M.size, 0, none⟩) (len + n) (len + n), M.push (.cells (old ++ new) t true))
    | some ⟨b, off, none⟩ =>
     match M.get b with
     | some (.cells c t' true) =>
      if t' = t ∧ off = 0 ∧ c.length = len * size ∧ M.base ≤ b then some (.slice (some ⟨M.size, 0, none⟩) (len + n) (len + n), (M.set b .dead).push (.cells (c ++ new) t true)) else none
     | _ => none
   else none
 | _, _ => none
def copyV (M : Mem) (size : Nat) (d s : Value) : Option (Value × Mem) :=
 match d, lenV s with
 | .slice base dl _, some sl =>
  let n := min sl dl
  if n = 0 then some (.int .i64 0, M)
  else match srcOf M size s n, base with
  | some cs, some a => (M.storeN a.block a.off cs).map fun M' => (.int .i64 n, M')
  | _, _ => none
 | _, _ => none
def bytesOf : List Value → Option (List UInt8)
 | [] => some []
 | .int .u8 b :: r => (bytesOf r).map (b.toNat.toUInt8 :: ·)
 | _ => none
def allocV (M : Mem) (t : TypeId) (c : List Value) : Value × Mem := (.pointer (some ⟨M.size, 0, none⟩), M.push (.cells c t true))
def rep (n : Nat) (z : List Value) : List Value := (List.replicate n z).flatten
def sliceV (size len l h m : Nat) (mx : Bool) : Option Addr → Option Value
 | none => some (.slice none 0 0)
 | some ⟨b, off, sp⟩ =>
  if sp.isNone ∧ h > len then none
  else if m = l then (if sp.isSome ∨ mx then some (.slice (some ⟨b, off, some 0⟩) 0 0) else some (.chan (some 0)))
  else some (.slice (some ⟨b, off + l * size, if mx then some 0 else sp⟩) (h - l) (m - l))
def mapPut (es : List MapEntry) (clock : Nat) (k x : Value) : Option (Nat × Value) → AObj
 | some (i, _) => .map (es.modify i fun e => { e with key := k, val := x }) clock
 | none => .map (es ++ [{ key := k, val := x, born := clock }]) (clock + 1)
def mapDel (M : Mem) (r : Nat) (es : List MapEntry) (clock : Nat) : Option (Nat × Value) → Mem
 | some (i, _) => M.set r (.map (es.eraseIdx i) clock)
 | none => M
def capV : Value → Option Value
 | .slice none _ n => some (.int .i64 n)
 | .slice (some ⟨_, _, some _⟩) _ n => some (.int .i64 n)
 | _ => none
def dataV : Value → Option Value
 | .slice none _ _ => some (.pointer none)
 | .slice (some ⟨b, off, _⟩) _ c => if c = 0 then none else some (.pointer (some ⟨b, off, none⟩))
 | _ => none
def uStrV (M : Mem) (u : TypeId) (n : Int) : Value → Option (Value × Mem)
 | .pointer none => if n = 0 then some (.string .empty, M) else none
 | .pointer (some ⟨b, off, none⟩) =>
  if n = 0 then some (.string .empty, M)
  else match M.get b with
   | some (.cells c ty _) =>
    if 0 < n ∧ n < 2 ^ 40 ∧ off + n.toNat ≤ c.length ∧ ty = u ∧ M.base ≤ b then
     (bytesOf ((c.drop off).take n.toNat)).map fun s => (.string ⟨s.toArray⟩, M.set b (.cells c ty false))
    else none
   | _ => none
 | _ => none
def opSem (o : MOp) (t : List Value) (M : Mem) : Option (Value × Mem) :=
 match o with
 | .val x => some (ev t x, M)
 | .pick c a b => match ev t c with
  | .bool b' => some (if b' then ev t a else ev t b, M)
  | _ => none
 | .box ty x => if notTup (ev t x) then some (allocV M ty (ev t x).cells.toList) else none
 | .build z ps => (fillL z (ps.map fun p => (p.1, p.2.1, ev t p.2.2))).map fun c => (.agg c.toArray, M)
 | .lit ty len z ps => (fillL z (ps.map fun p => (p.1, p.2.1, ev t p.2.2))).map fun c => (.slice (some ⟨M.size, 0, some 0⟩) len len, M.push (.cells c ty true))
 | .load n a => match ev t a with
  | .pointer (some ⟨b, off, none⟩) => match n with
   | some n => (M.loadN b off n).map fun c => (.agg c.toArray, M)
   | none => (M.load1 b off).map fun v => (v, M)
  | _ => none
 | .store n a x => match ev t a with
  | .pointer (some ⟨b, off, none⟩) => if (ev t x).cells.size = n ∧ notTup (ev t x) = true then (M.storeQ b off (ev t x).cells.toList).map fun M' => (undef, M') else none
  | _ => none
 | .nilCheck x => match ev t x with
  | .pointer (some a) => some (.pointer (some a), M)
  | .func (.func f) a b => some (.func (.func f) a b, M)
  | .func (.yield f) a b => some (.func (.yield f) a b, M)
  | _ => none
 | .bin op k sg x y => (binV op k sg (ev t x) (ev t y)).map fun v => (v, M)
 | .un op x => (unV op (ev t x)).map fun v => (v, M)
 | .convI k x => match ev t x with
  | .int _ n => some (.int k (k.wrap n), M)
  | _ => none
 | .convS x => match ev t x with
  | .string s => some (.string s, M)
  | _ => none
 | .castP u n x => match ev t x with
  | .pointer (some ⟨b, 0, none⟩) => match M.get b with
   | some (.cells c ty _) => if ty = u ∧ n ≤ c.length then some (.pointer (some ⟨b, 0, none⟩), M) else none
   | _ => none
  | _ => none
 | .mkIface ty x => some (.iface ty (ev t x), M)
 | .mkFunc fn first cap => some (.func fn (first.map (ev t)).toArray (cap.map (ev t)).toArray, M)
 | .mkMap => some (.map (some M.size), M.push (.map [] 0))
 | .mkSlice ty bytes z l c => match ev t l, ev t c with
  | .int _ l, .int _ c => if 0 ≤ l ∧ l ≤ c ∧ c ≤ 2 ^ 40 ∧ c * bytes ≤ 2 ^ 40 then
    some (.slice (some ⟨M.size, 0, some 0⟩) l.toNat c.toNat, M.push (.cells (rep c.toNat z) ty true)) else none
  | _, _ => none
 | .sliceS x lo hi => match ev t x with
  | .string s => (bounds s.size s.size (lo.map (ev t)) (hi.map (ev t)) none).map fun (l, h, _) => (.string (s.extract l h), M)
  | _ => none
 | .sliceL size x lo hi mx => match ev t x with
  | .slice a len cap => (bounds len cap (lo.map (ev t)) (hi.map (ev t)) (mx.map (ev t))).bind fun r => (sliceV size len r.1 r.2.1 r.2.2 mx.isSome a).map fun v => (v, M)
  | _ => none
 | .sliceA n size x lo hi mx => match ev t x with
  | .pointer (some ⟨b, off, none⟩) => (bounds n n (lo.map (ev t)) (hi.map (ev t)) (mx.map (ev t))).map fun (l, h, m) =>
    (.slice (some ⟨b, if m = l then off else off + l * size, some 0⟩) (h - l) (m - l), M)
  | _ => none
 | .fieldAddr off x => match ev t x with
  | .pointer (some ⟨b, o, none⟩) => some (.pointer (some ⟨b, o + off, none⟩), M)
  | _ => none
 | .field n off x => match ev t x with
  | .agg c => (partV n c.toList off).map fun v => (v, M)
  | _ => none
 | .addrA len size x i => match ev t x, ev t i with
  | .pointer (some ⟨b, off, none⟩), .int _ i => if 0 ≤ i ∧ i < len then some (.pointer (some ⟨b, off + i.toNat * size, none⟩), M) else none
  | _, _ => none
 | .addrL size x i => match ev t x, ev t i with
  | .slice (some a) len _, .int _ i => if 0 ≤ i ∧ i < len then some (.pointer (some ⟨a.block, a.off + i.toNat * size, none⟩), M) else none
  | _, _ => none
 | .idxA len n size x i => match ev t x, ev t i with
  | .agg c, .int _ i => if 0 ≤ i ∧ i < len then (partV n c.toList (i.toNat * size)).map fun v => (v, M) else none
  | _, _ => none
 | .idxS x i => match ev t x, ev t i with
  | .string s, .int _ i => if 0 ≤ i then (s[i.toNat]?).map fun b => (.int .u8 b.toNat, M) else none
  | _, _ => none
 | .lookup z ok ag sg m k => match ev t m with
  | .map none => if keyOk ag sg (ev t k) then some (if ok then .tuple #[z, .bool false] else z, M) else none
  | .map (some r) => match M.get r with
   | some (.map es _) => if keyOk ag sg (ev t k) = false then none else (findK ag sg (ev t k) es 0).map fun r => (match r with
    | some (_, v) => if ok then .tuple #[v, .bool true] else v
    | none => if ok then .tuple #[z, .bool false] else z, M)
   | _ => none
  | _ => none
 | .mapUpd ag sg m k x => match ev t m with
  | .map (some r) => match M.get r with
   | some (.map es clock) => if M.base ≤ r ∧ keyOk ag sg (ev t k) = true then (findK ag sg (ev t k) es 0).map fun f => (undef, M.set r (mapPut es clock (ev t k) (ev t x) f)) else none
   | _ => none
  | _ => none
 | .rangeS x => match ev t x with
  | .string s => some (.pointer (some ⟨M.size, 0, none⟩), M.push (.siter s 0))
  | _ => none
 | .nextS x => match ev t x with
  | .pointer (some ⟨r, 0, none⟩) => match M.get r with
   | some (.siter s pos) =>
    if pos < s.size then
     if M.base ≤ r then some (.tuple #[.bool true, .int .i64 pos, .int .i32 (Utf8.decode s pos).1], M.set r (.siter s (pos + (Utf8.decode s pos).2))) else none
    else some (.tuple #[.bool false], M)
   | _ => none
  | _ => none
 | .rangeM x => match ev t x with
  | .map none => some (.pointer (some ⟨M.size, 0, none⟩), M.push (.miter none))
  | .map (some m) => match M.get m with
   | some (.map [] _) => some (.pointer (some ⟨M.size, 0, none⟩), M.push (.miter (some m)))
   | some (.map _ clock) => some (.pointer (some ⟨M.size, 0, none⟩), M.push (.miterL m clock #[] clock))
   | _ => none
  | _ => none
 | .nextM x => match ev t x with
  | .pointer (some ⟨r, 0, none⟩) => match M.get r with
   | some (.miter none) => some (.tuple #[.bool false], M)
   | some (.miter (some m)) => match M.get m with
    | some (.map [] _) => some (.tuple #[.bool false], M)
    | _ => none
   | _ => none
  | _ => none
 | .never => none
 | .entryM x => match ev t x with
  | .pointer (some ⟨r, 0, none⟩) => match M.get r with
   | some (.miterL m _ seen last) => match seen.back?, M.get m with
    | some b, some (.map es clock) => if clock = last then (es.find? fun e => e.born == b).map fun e => (.tuple #[e.key, e.val], M) else none
    | _, _ => none
   | _ => none
  | _ => none
 | .extract x i => match ev t x with
  | .tuple vs => (vs.toList[i]?).map fun v => (v, M)
  | _ => none
 | .append ty bytes size str s x => if isStr (ev t x) = str then appendV M ty bytes size (ev t s) (ev t x) else none
 | .copy size d s => copyV M size (ev t d) (ev t s)
 | .lenA n _ => some (.int .i64 n, M)
 | .len kd x => match kd, ev t x with
  | 0, .string s => some (.int .i64 s.size, M)
  | 1, .slice _ n _ => some (.int .i64 n, M)
  | 1, .chan (some _) => some (.int .i64 0, M)
  | 2, .map none => some (.int .i64 0, M)
  | 2, .map (some r) => match M.get r with
   | some (.map es _) => some (.int .i64 es.length, M)
   | _ => none
  | _, _ => none
 | .capA n _ => some (.int .i64 n, M)
 | .cap x => (capV (ev t x)).map fun v => (v, M)
 | .minmax mx x xs => (minmaxV mx (ev t x) (xs.map (ev t))).map fun v => (v, M)
 | .delete ag sg m k => match ev t m with
  | .map (some r) => match M.get r with
   | some (.map es clock) => if M.base ≤ r ∧ keyOk ag sg (ev t k) = true then (findK ag sg (ev t k) es 0).map fun f => (.tuple #[], mapDel M r es clock f) else none
   | _ => none
  | _ => none
 | .sliceData x => (dataV (ev t x)).map fun v => (v, M)
 | .uString u p n => match ev t n with
  | .int _ n => uStrV M u n (ev t p)
  | _ => none
 | .ptrU x => match ev t x with
  | .pointer (some ⟨b, off, none⟩) => match M.get b with
   | some (.cells c _ _) => if off < c.length then some (.pointer (some ⟨b, off, none⟩), M) else none
   | _ => none
  | _ => none
 | .boxD => some (.pointer (some ⟨M.size, 0, none⟩), M.push .dead)
 | .fill n ty a x => match ev t a with
  | .pointer (some ⟨b, 0, none⟩) => match M.get b with
   | some .dead => if M.base ≤ b ∧ (ev t x).cells.size = n ∧ notTup (ev t x) = true then some (.pointer (some ⟨b, 0, none⟩), M.set b (.cells (ev t x).cells.toList ty true)) else none
   | _ => none
  | _ => none
 | .ident x => some (ev t x, M)
 | .appZ ty bytes _ s x => match ev t s, ev t x with
  | .slice none _ _, .int _ n => if 0 < n ∧ n ≤ 2 ^ 40 ∧ n.toNat * bytes ≤ 2 ^ 40 then some (.slice (some ⟨M.size, 0, none⟩) n.toNat n.toNat, M.push (.cells [] ty true)) else none
  | _, _ => none
 | .noZero ty x => match ev t x with
  | .int .i64 n => if 0 ≤ n ∧ n ≤ 2 ^ 40 then some (.slice (some ⟨M.size, 0, none⟩) n.toNat n.toNat, M.push (.cells [] ty true)) else none
  | _ => none
 | .call _ _ => none
def putT (t : List Value) (d : Option Tmp) (v : Value) : List Value :=
 match d with
 | some d => t.set d v
 | none => t
abbrev CallF := Value → List Value → Mem → Option (Value × Mem)
def guardJunk (t : List Value) : Option (Tmp × Bool) → Bool
 | none => false
 | some (i, _) => match t[i]? with | some (.chan none) => true | _ => false
def offV (t : List Value) (g : Option (Tmp × Bool)) (M : Mem) : Option (Value × Mem) := if guardJunk t g then none else some (undef, M)
def stepVal (call : CallF) (o : MOper) (t : List Value) (M : Mem) : Option (Value × Mem) :=
 if guardOk t o.guard then
  match o.op with
  | .call f as => call (ev t f) (as.map (ev t)) M
  | op => opSem op t M
 else offV t o.guard M
def killOp (o : MOper) (t : List Value) : Bool :=
 match o.op with
 | .append _ _ _ _ s x => guardOk t o.guard && (match ev t s, lenV (ev t x) with
  | .slice (some ⟨_, _, none⟩) _ _, some (_ + 1) => true
  | _, _ => false)
 | _ => false
def stepQ (call : CallF) (o : MOper) (t : List Value) (M : Mem) : Option (Value × Mem) :=
 if o.q = 1 ∨ (o.q = 3 ∧ killOp o t = false) then (stepVal call o t M.freeze).map fun r => (r.1, r.2.thaw M.base) else stepVal call o t M
def runOps (call : CallF) : List MOper → List Value → Mem → Option (List Value × Mem)
 | [], t, M => some (t, M)
 | o :: os, t, M => match stepQ call o t M with
  | some (v, M') => runOps call os (putT t o.dst v) M'
  | none => none
structure St where
 t : List Value
 ds : List Nat
 M : Mem
def loopN (f : St → Option (XE × St)) : Nat → St → Option (XE × St)
 | 0, _ => none
 | n + 1, s => match f s with
  | some (.normal, s') => loopN f n s'
  | r => r
def isFn : Value → Bool
 | .func (.func _) _ _ => true
 | _ => false
def endRange (l : Nat) (t : List Value) (ds : List Nat) (M : Mem) : Option (XE × St) :=
 match M.get l with
 | some (.loop st pend tm ps as bd d) =>
  if M.base ≤ l ∧ st ≠ .busy then
   some (pend.getD .normal, ⟨t, ds, M.set l (.loop .exhausted pend tm ps as bd d)⟩)
  else none
 | _ => none
def hideC : Value → Value
 | .agg cs => .agg (cs.map fun _ => .chan none)
 | .tuple vs => .tuple vs
 | _ => .chan none
def hideV : Value → Value
 | .tuple vs => .tuple (vs.map hideC)
 | x => hideC x
def iterAt (t : List Value) (M : Mem) (it : Tmp) : Option (Nat × AObj) :=
 match t.getD it undef with
 | .pointer (some ⟨r, 0, none⟩) => (M.get r).map fun o => (r, o)
 | _ => none
def mapOver (nx ok : Tmp) (s : St) : St := ⟨(s.t.set nx (.tuple #[.bool false])).set ok (.bool false), s.ds, s.M⟩
def mapEnter (nx ok : Tmp) (r m since clock : Nat) (seen : Array Nat) (s : St) (e : MapEntry) : St :=
 ⟨(s.t.set nx (.tuple #[.bool true, e.key, e.val])).set ok (.bool true), s.ds, s.M.set r (.miterL m since (seen.push e.born) clock)⟩
def mapLeft (seen : Array Nat) (es : List MapEntry) : List MapEntry := es.filter fun e => !seen.contains e.born
def collect (f : MapEntry → Option (List St)) : List MapEntry → Option (List St)
 | [] => some []
 | e :: es => (f e).bind fun a => (collect f es).map fun b => a ++ b
def mapHere (it nx ok : Tmp) (s : St) (go : St → Option (List St)) : Option (List St) :=
 match iterAt s.t s.M it with
 | some (r, .miterL m since seen last) => match s.M.get m with
  | some (.map es clock) =>
   if s.M.base ≤ r ∧ (∀ e ∈ es, e.born < since) ∧ since ≤ last ∧ nx < s.t.length ∧ ok < s.t.length then
    match mapLeft seen es with
    | [] => some [mapOver nx ok s]
    | e :: l => collect (fun e => go (mapEnter nx ok r m since clock seen s e)) (e :: l)
   else none
  | _ => none
 | _ => none
def mapAll (run : St → Option (XE × St)) (it nx ok : Tmp) : Nat → St → Option (List St)
 | 0, s => mapHere it nx ok s fun _ => none
 | k + 1, s => mapHere it nx ok s fun e => match run e with
  | some (.normal, s') => mapAll run it nx ok k s'
  | _ => none
def Mem.pad : Nat → Mem → Mem
 | 0, M => M
 | n + 1, M => Mem.pad n (M.push .dead)
structure MapAlike (s f0 f : St) (r : Nat) : Prop where
 ds : f.ds = s.ds
 len : f.t.length = f0.t.length
 hide : ∀ i, hideV (f.t.getD i undef) = hideV (f0.t.getD i undef)
 old : ∀ b, b < s.M.size → b ≠ r → f.M.get b = s.M.get b
open Classical in
noncomputable def meetT (f0 : St) (l : List St) : List Value :=
 (List.range f0.t.length).map fun i => if ∀ f ∈ l, f.t.getD i undef = f0.t.getD i undef then f0.t.getD i undef else hideV (f0.t.getD i undef)
def maxSize (l : List St) : Nat := l.foldr (fun f n => max f.M.size n) 0
open Classical in
noncomputable def mapEnd (run : St → Option (XE × St)) (it nx ok : Tmp) (id fuel : Nat) (s : St) : Option (XE × St) :=
 match iterAt s.t s.M it with
 | some (_, .miter none) => if nx < s.t.length ∧ ok < s.t.length then some (.exit id, mapOver nx ok s) else none
 | some (_, .miter (some m)) => match s.M.get m with
  | some (.map [] _) => if nx < s.t.length ∧ ok < s.t.length then some (.exit id, mapOver nx ok s) else none
  | _ => none
 | some (r, .miterL _ _ _ _) => match mapAll run it nx ok fuel s with
  | some (f0 :: l) => if s.M.base ≤ r ∧ ∀ f ∈ f0 :: l, MapAlike s f0 f r then some (.exit id, ⟨meetT f0 l, s.ds, Mem.pad (maxSize (f0 :: l) - s.M.size) (s.M.set r .dead)⟩) else none
  | _ => none
 | _ => none
noncomputable def exec (call : CallF) (fuel : Nat) (around : Option Nat) : MCode → St → Option (XE × St)
 | .skip, s => some (.normal, s)
 | .region _ ops, s => match runOps call ops s.t s.M with
  | some (t, M) => some (.normal, ⟨t, s.ds, M⟩)
  | none => none
 | .seq a b, s => match exec call fuel around a s with
  | some (.normal, s') => exec call fuel around b s'
  | r => r
 | .cond c a b, s => match ev s.t c with
  | .bool true => exec call fuel around a s
  | .bool false => exec call fuel around b s
  | _ => none
 | .block id c, s => match exec call fuel around c s with
  | some (.exit i, s') => if i = id then some (.normal, s') else some (.exit i, s')
  | r => r
 | .loop c, s => loopN (exec call fuel around c) fuel s
 | .loopM it nx ok id c, s => mapEnd (exec call fuel around c) it nx ok id fuel s
 | .exit id, s => some (.exit id, s)
 | .ret, s => some (.ret, s)
 | .rangeFunc f ps as bd, s =>
  if isFn (ev s.t f) then
   match around with
   | none => match call (ev s.t f) [.func (.yield (s.M.size + 1)) #[] #[]] ((s.M.push .dblk).push (.loop .ready none s.t ps as bd s.M.size)) with
    | some (_, M') => endRange (s.M.size + 1) s.t (s.M.size :: s.ds) M'
    | none => none
   | some l => match s.M.get l with
    | some (.loop _ _ _ _ _ _ d) => match call (ev s.t f) [.func (.yield s.M.size) #[] #[]] (s.M.push (.loop .ready none s.t ps as bd d)) with
     | some (_, M') => endRange s.M.size s.t s.ds M'
     | none => none
    | _ => none
  else none
def resV (t : List Value) (M : Mem) : RVar → Option Value
 | .tmp i => some (t.getD i undef)
 | .cell i n => match t.getD i undef with
  | .pointer (some ⟨b, off, none⟩) => match n with
   | some n => (M.loadN b off n).map fun c => .agg c.toArray
   | none => M.load1 b off
  | _ => none
def resVs (t : List Value) (M : Mem) : List RVar → Option (List Value)
 | [] => some []
 | r :: rs => match resV t M r, resVs t M rs with
  | some v, some vs => some (v :: vs)
  | _, _ => none
def tupV : List Value → Value
 | [v] => v
 | vs => .tuple vs.toArray
def killAll (M : Mem) : List Nat → Option Mem
 | [] => some M
 | d :: ds => match M.get d with
  | some .dblk => if M.base ≤ d then killAll (M.set d .dead) ds else none
  | _ => none
def retV (m : MFunc) (s : St) : Option (Value × Mem) :=
 (killAll s.M s.ds).bind fun M' => (resVs s.t M' m.res).map fun vs => (tupV vs, M')
noncomputable def roundV (call : CallF) (fuel : Nat) (l : Nat) (args : List Value) (M : Mem) : Option (Value × Mem) :=
 match M.get l with
 | some (.loop .ready _ tm ps as bd d) =>
  if args.length = ps.length ∧ M.base ≤ l then
   match exec call fuel (some l) as ⟨(ps.zip args).foldl (fun t p => t.set p.1 p.2) tm, [], M⟩ with
   | some (.normal, s1) => match s1.M.get l with
    | some (.loop .ready p1 tm1 ps1 as1 bd1 d1) =>
     match exec call fuel (some l) bd ⟨s1.t, s1.ds, s1.M.set l (.loop .busy p1 tm1 ps1 as1 bd1 d1)⟩ with
     | some (x, s2) => match s2.M.get l with
      | some (.loop _ _ tm2 ps2 as2 bd2 d2) =>
       match x with
       | .normal => some (.bool true, s2.M.set l (.loop .ready none tm2 ps2 as2 bd2 d2))
       | x => some (.bool false, s2.M.set l (.loop .done (some x) tm2 ps2 as2 bd2 d2))
      | _ => none
     | none => none
    | _ => none
   | _ => none
  else none
 | _ => none
abbrev Funs := FuncId → Option MFunc
abbrev Orac := FuncId → List Value → Mem → Option Value
noncomputable def callN (F : Funs) (E : Orac) : Nat → CallF
 | 0 => fun _ _ _ => none
 | n + 1 => fun v args M => match v with
  | .func (.func f) first cap =>
   match E f (first.toList ++ args ++ cap.toList) M with
   | some r => some (r, M)
   | none => match F f with
    | some m =>
     match exec (callN F E n) n none m.body ⟨first.toList ++ args ++ cap.toList ++ List.replicate (m.ntmps - (first.toList ++ args ++ cap.toList).length) undef, [], M⟩ with
     | some (.normal, s) | some (.ret, s) => retV m s
     | _ => none
    | none => none
  | .func (.yield l) _ _ => roundV (callN F E n) n l args M
  | _ => none
section comp
variable (P : Program)
def szOf (t : TypeId) : Option Nat := (P.info? t).map (·.size)
def bytesOfT (t : TypeId) : Option Nat := (P.info? t).map (·.bytes)
def aggOf (t : TypeId) : Option (Option Nat) :=
 match P.underlying t with
 | some (.struct _) | some (.array _ _) => (szOf P t).map some
 | some _ => some none
 | none => none
def okS : Value → Bool
 | .bool _ | .int _ _ | .string _ | .pointer none | .slice none 0 0 | .map none | .nilFunc | .nilIface => true
 | _ => false
def okC : Value → Bool
 | .agg cs => cs.toList.all okS
 | v => okS v
def okO : Operand → Bool
 | .const v => okC v
 | .global _ => false
 | _ => true
def zeroOf (t : TypeId) : Option Value := ((P.info? t).bind (·.zero)).bind fun v => if okC v then some v else none
def sigT (sg : TypeId → Option (List Nat)) : List Field → Nat → Option (List Nat)
 | [], _ => some []
 | f :: fs, o => if f.name ≠ "_" ∧ f.offset = o then (sg f.type).bind fun l => (sigT sg fs (o + l.length)).map (l ++ ·) else none
def flatSig : Nat → TypeId → Option (List Nat)
 | 0, _ => none
 | d + 1, t => (match P.underlying t with
  | some (.int _) => some [0]
  | some .bool => some [1]
  | some .string => some [2]
  | some (.struct fs) => if P.stoodInHeld t then none else sigT (flatSig d) fs.toList 0
  | some (.array n e) => (flatSig d e).map fun l => (List.replicate n l).flatten
  | _ => none).bind fun l => if szOf P t = some l.length then some l else none
def sigOf (t : TypeId) : Option (Bool × List Nat) := (flatSig P 20 t).bind fun l => (aggOf P t).map fun a => (a.isSome, l)
def kdOf (op : BinOp) (t : TypeId) : Option (Nat × List Nat) :=
 match op with
 | .eql | .neq => match P.underlying t with
  | some (.int _) | some .string => some (0, [])
  | some .bool => some (1, [])
  | some (.struct _) | some (.array _ _) => if P.eqGuardType P.depth t then none else (flatSig P 20 t).map fun l => (2, l)
  | some (.pointer e) => if szOf P e == some 0 || szOf P e == none then none else some (3, [])
  | some (.slice _) => some (4, [])
  | some (.map _ _) => some (5, [])
  | some (.func _ _ _) => some (6, [])
  | _ => none
 | _ => some (0, [])
def partsS (fs : Array Field) (ps : List (Nat × Operand)) : Option (List (Nat × Nat × Operand)) :=
 ps.mapM fun p => (fs[p.1]?).bind fun f => (szOf P f.type).map fun s => (f.offset, s, p.2)
def partsA (size : Nat) (ps : List (Nat × Operand)) : List (Nat × Nat × Operand) := ps.map fun p => (p.1 * size, size, p.2)
def elemZ (e : TypeId) : Option (Nat × List Value) :=
 (szOf P e).bind fun s => (zeroOf P e).bind fun z => if s ≠ 0 ∧ z.cells.size = s then some (s, z.cells.toList) else none
def compPlain (op : Op) : Option MOp :=
 match op with
 | .move x | .assign x => some (.val x)
 | .pick c a b => some (.pick c a b)
 | .alloc e => (zeroOf P e).map fun z => .box e (.const z)
 | .box e x => some (.box e x)
 | .build t ps => (zeroOf P t).bind fun z => match P.underlying t with
  | some (.struct fs) => if fs.toList.all (fun f => (szOf P f.type).isSome) then (partsS P fs ps.toList).map fun ps => .build z.cells.toList ps else none
  | some (.array _ e) => (szOf P e).map fun s => .build z.cells.toList (partsA s ps.toList)
  | _ => none
 | .buildSlice t len ps => match P.underlying t with
  | some (.slice e) => (elemZ P e).bind fun (s, z) => if len * s ≤ 2 ^ 24 then some (.lit e len (rep len z) (partsA s ps.toList)) else none
  | _ => none
 | .load t a => (aggOf P t).map fun n => .load n a
 | .store t a x => (szOf P t).map fun n => .store n a x
 | .nilCheck x => some (.nilCheck x)
 | .binOp op t x y _ => (kdOf P op t).map fun k => .bin op k.1 k.2 x y
 | .unOp op _ x => some (.un op x)
 | .convert s d x => match P.underlying s, P.underlying d with
  | some (.int _), some (.int k) => some (.convI k x)
  | some .string, some .string => some (.convS x)
  | some (.pointer e), some .unsafePointer => if szOf P e == some 0 || szOf P e == none then none else some (.ptrU x)
  | some .unsafePointer, some (.pointer u) => (szOf P u).bind fun n => if n = 0 then none else some (.castP u n x)
  | _, _ => none
 | .makeInterface t x => match P.underlying t with
  | some (.interface _) => none
  | some _ => some (.mkIface t x)
  | none => none
 | .makeFunc (.func f) a b => some (.mkFunc (.func f) a.toList b.toList)
 | .makeMap _ none => some .mkMap
 | .makeMap t (some (.const (.int _ _))) => match P.underlying t with
  | some (.map _ _) => some .mkMap
  | _ => none
 | .makeSlice t l c => match P.underlying t with
  | some (.slice e) => (elemZ P e).bind fun (_, z) => (bytesOfT P e).map fun b => .mkSlice e b z l c
  | _ => none
 | .slice t x lo hi mx => match P.underlying t with
  | some .string => match mx with
   | none => some (.sliceS x lo hi)
   | some _ => none
  | some (.slice e) => (szOf P e).bind fun s => if s = 0 then none else some (.sliceL s x lo hi mx)
  | some (.array n e) => (szOf P e).map fun s => .sliceA n s x lo hi mx
  | some (.pointer arr) => match P.underlying arr with
   | some (.array n e) => (szOf P e).map fun s => .sliceA n s x lo hi mx
   | _ => none
  | _ => none
 | .fieldAddr s x i => match P.underlying s with
  | some (.struct fs) => (fs[i]?).bind fun f => (szOf P f.type).bind fun n => if n = 0 then none else some (.fieldAddr f.offset x)
  | _ => none
 | .field s x i => match P.underlying s with
  | some (.struct fs) => (fs[i]?).bind fun f => (aggOf P f.type).map fun n => .field n f.offset x
  | _ => none
 | .indexAddr t x i => match P.underlying t with
  | some (.array n e) => (szOf P e).map fun s => .addrA n s x i
  | some (.slice e) => (szOf P e).map fun s => .addrL s x i
  | _ => none
 | .index t x i => match P.underlying t with
  | some (.array n e) => (szOf P e).bind fun s => (aggOf P e).map fun a => .idxA n a s x i
  | some .string => some (.idxS x i)
  | _ => none
 | .lookup t m k ok => match P.underlying t with
  | some (.map kt e) => (zeroOf P e).bind fun z => (sigOf P kt).map fun g => .lookup z ok g.1 g.2 m k
  | _ => none
 | .mapUpdate t m k x | .insert t m k x => match P.underlying t with
  | some (.map kt _) => (sigOf P kt).map fun g => .mapUpd g.1 g.2 m k x
  | _ => none
 | .range t x => match P.underlying t with
  | some .string => some (.rangeS x)
  | some (.map _ _) => some (.rangeM x)
  | _ => none
 | .next it true => some (.nextS it)
 | .next it false => some (.nextM it)
 | .entry it => some (.entryM it)
 | .extract x i => some (.extract x i)
 | .call { callee := .builtin b, args, argTypes } =>
  match b, args.toList, argTypes.toList with
  | .append, [s, x], [ts, tx] => match P.underlying ts, P.underlying tx with
   | some (.slice e), some (.slice _) => (elemZ P e).bind fun z => (bytesOfT P e).map fun b => .append e b z.1 false s x
   | some (.slice e), some .string => (elemZ P e).bind fun z => (bytesOfT P e).map fun b => .append e b z.1 true s x
   | some (.slice e), some (.int _) => (elemZ P e).bind fun z => (bytesOfT P e).map fun b => .appZ e b z.1 s x
   | _, _ => none
  | .copy, [d, s], [td, _] => match P.underlying td with
   | some (.slice e) => (szOf P e).bind fun s' => if s' = 0 then none else some (.copy s' d s)
   | _ => none
  | .len, [x], [t] => match P.underlying t with
   | some (.array n _) => some (.lenA n x)
   | some (.pointer a) => match P.underlying a with
    | some (.array n _) => some (.lenA n x)
    | _ => none
   | some .string => some (.len 0 x)
   | some (.slice _) => some (.len 1 x)
   | some (.map _ _) => some (.len 2 x)
   | _ => none
  | .cap, [x], [t] => match P.underlying t with
   | some (.array n _) => some (.capA n x)
   | some (.slice _) => some (.cap x)
   | _ => none
  | .min, x :: xs, _ => some (.minmax false x xs)
  | .max, x :: xs, _ => some (.minmax true x xs)
  | .delete, [m, k], [t, _] => match P.underlying t with
   | some (.map kt _) => (sigOf P kt).map fun g => .delete g.1 g.2 m k
   | _ => none
  | .unsafeSliceData, [x], _ => some (.sliceData x)
  | .unsafeString, [p, n], [t, _] => match P.underlying t with
   | some (.pointer u) => match P.underlying u with
    | some (.int .u8) => if szOf P u == some 1 then some (.uString u p n) else none
    | _ => none
   | _ => none
  | _, _, _ => none
 | .panic _ => some .never
 | _ => none
def noz (g : FuncId) : Option TypeId := (P.funcs[g]?).bind fun fn => if fn.name == "internal/bytealg.MakeNoZero" then (fn.resultTypes[0]?).bind fun t => match P.underlying t with
 | some (.slice e) => if szOf P e == some 1 then some e else none
 | _ => none else none
def identOp (g : FuncId) (x : Operand) : MOp :=
 match noz P g with
 | some e => .noZero e x
 | none => .ident x
def compCall (idf : FuncId → Bool) (f : Operand) (as : List Operand) : MOp :=
 match f, as with
 | .func g, [x] => if idf g then identOp P g x else .call f [x]
 | _, _ => .call f as
def compOp (idf : FuncId → Bool) (op : Op) : Option MOp :=
 if op.operands.toList.all okO then
  match op with
  | .call { callee := .value f, args, .. } => some (compCall P idf f args.toList)
  | op => compPlain P op
 else none
def pureOp : MOp → Bool
 | .val _ | .pick _ _ _ | .build _ _ | .nilCheck _ | .bin _ _ _ _ _ | .un _ _ | .convI _ _ | .convS _ | .mkIface _ _ | .mkFunc _ _ _ | .sliceS _ _ _ | .sliceL _ _ _ _ _ | .sliceA _ _ _ _ _ _ | .fieldAddr _ _
 | .field _ _ _ | .addrA _ _ _ _ | .addrL _ _ _ | .idxA _ _ _ _ _ | .idxS _ _ | .extract _ _ | .ident _ | .minmax _ _ _ | .cap _ | .capA _ _ | .lenA _ _ | .len 0 _ | .len 1 _ => true
 | _ => false
def compOper (idf : FuncId → Bool) (ops : Array Oper) (o : Oper) : Option MOper :=
 (compOp P idf o.op).bind fun op => match o.guard with
  | none => some { dst := o.dst, guard := none, q := 2, op }
  | some (j, b) => ((ops[j]?).bind (·.dst)).map fun t => { dst := o.dst, guard := some (t, b), q := 2, op }
def hasEdge (o : Oper) (j : Nat) : Bool := o.after.toList.any fun e => e.on == j && Region.binds .any e
def aheads : List Nat → List Oper → List Nat
 | acc, [] => acc
 | acc, o :: os => aheads (acc ++ [o.after.toList.foldl (fun s e => if Region.binds .any e then s ||| 2 ^ e.on ||| acc.getD e.on 0 else s) 0]) os
def impure : Nat → List MOper → List Nat
 | _, [] => []
 | i, m :: ms => if pureOp m.op then impure (i + 1) ms else i :: impure (i + 1) ms
def aloneAt (ah : List Nat) (im : List Nat) (i : Nat) : Bool :=
 im.all fun j => j == i || (ah.getD i 0).testBit j || (ah.getD j 0).testBit i
def tmpOk (all : List (Oper × Nat)) (o : Oper) (i : Nat) : Operand → Bool
 | .tmp t => all.all fun p => p.1.dst != some t || hasEdge o p.2 || hasEdge p.1 i
 | _ => true
def orderOk (ops : List Oper) : Bool :=
 ops.zipIdx.all (fun p => ops.zipIdx.all fun q => p.2 == q.2 || p.1.dst.isNone || p.1.dst != q.1.dst) &&
 ops.zipIdx.all fun p =>
  p.1.after.toList.all (fun e => !Region.binds .any e || decide (e.on < p.2)) &&
  (match p.1.guard with | none => true | some (j, _) => hasEdge p.1 j) &&
  p.1.op.operands.toList.all (tmpOk ops.zipIdx p.1 p.2)
def marked (ah im : List Nat) : Nat → List MOper → List MOper
 | _, [] => []
 | i, m :: ms => { m with q := if pureOp m.op then 0 else if aloneAt ah im i then 2 else 1 } :: marked ah im (i + 1) ms
def isApp : MOp → Bool
 | .append _ _ _ _ _ _ => true
 | _ => false
def anyApp (ms : List MOper) : Bool := ms.any fun m => m.q == 1 && isApp m.op
def mark3 : List MOper → List MOper
 | [] => []
 | m :: ms => if anyApp ms then m :: mark3 ms else if m.q == 1 && isApp m.op then { m with q := 3 } :: ms else m :: mark3 ms
def compOps (idf : FuncId → Bool) (ops : Array Oper) (draw : Bool) : Option (List MOper) :=
 (ops.toList.mapM (compOper P idf ops)).bind fun ms =>
  if draw then (if orderOk ops.toList then some (mark3 (marked (aheads [] ops.toList) (impure 0 ms) 0 ms)) else none) else some ms
structure Flux where
 jb : Nat
 js : Nat
 p : Tmp
 n : Nat
 ty : TypeId
 x : Operand
def edgeAt (ops : List Oper) (js jb : Nat) : Bool :=
 match ops[js]? with
 | some o => hasEdge o jb
 | none => false
def xOk (ops : List Oper) (js : Nat) : Operand → Bool
 | .tmp t => ops.zipIdx.all (fun o => o.1.dst != some t || decide (o.2 < js))
 | _ => true
def fluxAt (ops : List Oper) (ms : List MOper) (js : Nat) : Option Flux :=
 match ms[js]? with
 | some { dst := none, guard := none, q := _, op := .store n (.tmp p) x } =>
  match ms.findIdx? fun m => m.dst == some p with
  | some jb => match ms[jb]? with
   | some { dst := d, guard := none, q := 1, op := .box ty (.const z) } =>
    if d == some p && decide (jb < js) && z.cells.size == n && notTup z && okO x && edgeAt ops js jb && xOk ops js x then some ⟨jb, js, p, n, ty, x⟩ else none
   | _ => none
  | none => none
 | _ => none
def fluxes (ops : List Oper) (ms : List MOper) : List Flux := (List.range ms.length).filterMap (fluxAt ops ms)
def fluxed (fl : List Flux) (ms : List MOper) : List MOper :=
 ms.mapIdx fun i m => if fl.any (fun f => f.jb == i) then { m with op := .boxD } else if fl.any (fun f => f.js == i) then { m with q := 0, op := .val (.const (.bool true)) } else m
def lates (fl : List Flux) : List MOper := fl.map fun f => { dst := some f.p, guard := none, q := 2, op := .fill f.n f.ty (.tmp f.p) f.x }
def openStore (fl : List Flux) (ms : List MOper) : Bool := fl.any fun f => match ms[f.js]? with
 | some m => m.q == 1
 | none => false
def fluxC (ops : List Oper) (ms : List MOper) : MCode :=
 if !openStore (fluxes ops ms) ms || (fluxed (fluxes ops ms) ms).any (fun m => m.q != 0 && m.q != 1) || !(fluxes ops ms).all (fun f => (fluxes ops ms).all fun g => f.jb != g.jb || f.js == g.js) then .region true ms
 else .seq (.region true (fluxed (fluxes ops ms) ms)) (.region false (lates (fluxes ops ms)))
def mapHead (ops : List Oper) : Option (Tmp × Tmp × Tmp) :=
 match ops with
 | [⟨some nx, .next (.tmp it) false, _, _, _, none⟩, ⟨some ok, .extract (.tmp nx') 0, _, _, _, none⟩] => if nx = nx' ∧ nx ≠ it ∧ ok ≠ it ∧ ok ≠ nx then some (it, nx, ok) else none
 | _ => none
def mapLoop (c : Code) : Option (Tmp × Tmp × Tmp × Nat) :=
 match c with
 | .seq (.region _ ops false) (.seq (.cond (.tmp ok) .skip (.exit id)) _) => (mapHead ops.toList).bind fun h => if h.2.2 = ok then some (h.1, h.2.1, ok, id) else none
 | _ => none
def compC (idf : FuncId → Bool) : Code → Option MCode
 | .skip => some .skip
 | .region _ ops draw => (compOps P idf ops draw).map fun ms => if draw then fluxC ops.toList ms else .region false ms
 | .seq a b => (compC idf a).bind fun a => (compC idf b).map fun b => .seq a b
 | .cond c a b => if okO c then (compC idf a).bind fun a => (compC idf b).map fun b => .cond c a b else none
 | .block id c => (compC idf c).map fun c => .block id c
 | .loop c => (compC idf c).bind fun m => match mapLoop c, m with
  | some (it, nx, ok, id), .seq _ (.seq _ b) => some (.loopM it nx ok id b)
  | _, m => some (.loop m)
 | .rangeFunc f ps a b => if okO f then (compC idf a).bind fun a => (compC idf b).map fun b => .rangeFunc f ps.toList a b else none
 | .exit id => some (.exit id)
 | .ret => some .ret
 | .refuse _ => some (.cond (.func 0) .skip .skip)
 | _ => none
def compR : ResultVar → Option RVar
 | .tmp t => some (.tmp t)
 | .cell a t => (aggOf P t).map fun n => .cell a n
def compF (idf : FuncId → Bool) (fn : Func) : Option MFunc :=
 if fn.name == "runtime.NumGoroutine" then none else fn.body.bind fun c => (compC P idf c).bind fun c => (fn.results.toList.mapM (compR P)).map fun rs => ⟨fn.ntmps, rs, c⟩
end comp
end Go.Proofs.Ytifemfnjoobiiaa.Run
