/- Each operation of the program does what this session's small operation says: maps, iterators, append, copy. No statement of the program's is proved here. -/
import Derived.Test.YtifemfnjoobiiaaRunG
namespace Go.Proofs.Ytifemfnjoobiiaa.Run
open Go Go.RowKit
set_option linter.unusedVariables false
set_option linter.unusedSimpArgs false
section
variable {P : Program} {idf : FuncId → Bool}
def wput (w : World) (c : Nat) (o : Obj) : World := { w with heap := w.heap.setIfInBounds c o }
theorem wput_same {w : World} {c : Nat} (o : Obj) (h : c < w.heap.size) : (wput w c o).heap[c]? = some o := by simp [wput, h]
theorem wput_other {w : World} {c : Nat} (o : Obj) {k : Nat} (h : k ≠ c) : (wput w c o).heap[k]? = w.heap[k]? := by simp [wput, Ne.symm h]
theorem wput_size (w : World) (c : Nat) (o : Obj) : (wput w c o).heap.size = w.heap.size := by simp [wput]
theorem run_get {w : World} {c : Nat} {o : Obj} (h : w.heap[c]? = some o) (hn : ∀ a b d, o ≠ .cells a b d) : (getObj c).run P w = .ok o w := by
 unfold getObj Sem.run
 rw [h]
 cases o <;> first | (exact absurd rfl (hn _ _ _)) | rfl
theorem run_put {w : World} {c : Nat} {o : Obj} (h : w.heap[c]? = some o) (hn : ∀ a b d, o ≠ .cells a b d) (o' : Obj) : (setObj c o').run P w = .ok () (wput w c o') := by
 unfold setObj Sem.run
 rw [h]
 cases o <;> first | (exact absurd rfl (hn _ _ _)) | rfl
theorem Rep.map {φ : Loc} {M : Mem} {w : World} (h : Rep P idf φ M w) {b c K : Nat} (hb : φ b = some (c, K)) {es : List MapEntry} {clock : Nat} (hg : M.get b = some (.map es clock)) : ∃ es', w.heap[c]? = some (.map es' clock) ∧ ERel φ es es'.toList := by
 obtain ⟨o, o', g1, g2, g3⟩ := h.obj b c K hb
 rw [hg] at g1; cases g1
 cases g3 with
 | map _ es' _ he => exact ⟨es', g2, he⟩
theorem Rep.put {φ : Loc} {M : Mem} {w : World} (h : Rep P idf φ M w) {b c K : Nat} (hb : φ b = some (c, K)) (hbase : M.base ≤ b) {o : AObj} {o' : Obj} (hlive : M.get b ≠ some .dead) (ho : ORel P idf φ K o o') :
  Rep P idf φ (M.set b o) (wput w c o') ∧ Stp φ M w φ (M.set b o) (wput w c o') :=
 h.write hb hbase hlive (wput_same o' (h.lt hb).2) ho (fun k hk => wput_other o' hk) (wput_size w c o') rfl rfl rfl
theorem ERel.length {φ : Loc} {a b : List MapEntry} (h : ERel φ a b) : a.length = b.length := by
 induction h with
 | nil => rfl
 | cons _ _ _ ih => simp [ih]
theorem ERel.append {φ : Loc} {a b c d : List MapEntry} (h : ERel φ a b) (h' : ERel φ c d) : ERel φ (a ++ c) (b ++ d) := by
 induction h with
 | nil => exact h'
 | cons hk hv _ ih => exact .cons hk hv ih
theorem ERel.modify {φ : Loc} {k k' v v' : Value} (hk : VRel φ k k') (hv : VRel φ v v') {a b : List MapEntry} (h : ERel φ a b) : ∀ i, ERel φ (a.modify i fun e => { e with key := k, val := v }) (b.modify i fun e => { e with key := k', val := v' }) := by
 induction h with
 | nil => intro i; simp; exact .nil
 | cons hk' hv' ht ih =>
  intro i
  cases i with
  | zero => exact .cons hk hv ht
  | succ i => exact .cons hk' hv' (ih i)
theorem ERel.eraseIdx {φ : Loc} {a b : List MapEntry} (h : ERel φ a b) : ∀ i, ERel φ (a.eraseIdx i) (b.eraseIdx i) := by
 induction h with
 | nil => intro i; simp; exact .nil
 | cons hk' hv' ht ih =>
  intro i
  cases i with
  | zero => exact ht
  | succ i => exact .cons hk' hv' (ih i)
theorem keyOk_rel {φ : Loc} {ag : Bool} {sg : List Nat} {k k' : Value} (hk : VRel φ k k') (h : keyOk ag sg k = true) : keyOk ag sg k' = true := by
 unfold keyOk at h ⊢
 cases ag with
 | false => rfl
 | true =>
  simp only [if_true] at h ⊢
  split at h
  ·cases hk with
   | agg _ b ha ia ho => simp at h ⊢; omega
  ·cases h
theorem VRel.tup2 {φ : Loc} {a b a' b' : Value} (h : VRel φ a a') (h' : VRel φ b b') : VRel φ (.tuple #[a, b]) (.tuple #[a', b']) := VRel.of_tuple (.cons h (.cons h' .nil))
theorem VRel.tup1 {φ : Loc} {a a' : Value} (h : VRel φ a a') : VRel φ (.tuple #[a]) (.tuple #[a']) := VRel.of_tuple (.cons h .nil)
theorem VRel.tup3 {φ : Loc} {a b c a' b' c' : Value} (h : VRel φ a a') (h' : VRel φ b b') (h'' : VRel φ c c') : VRel φ (.tuple #[a, b, c]) (.tuple #[a', b', c']) := VRel.of_tuple (.cons h (.cons h' (.cons h'' .nil)))
theorem g_lookup {φ : Loc} {M : Mem} {w : World} (h : Rep P idf φ M w) {t kt e : TypeId} {z : Value} {ok ag : Bool} {sg : List Nat} (hu : P.underlying t = some (.map kt e)) (hz : zeroOf P e = some z) (hsg : sigOf P kt = some (ag, sg))
  {m m' k k' : Value} (hm : VRel φ m m') (hk : VRel φ k k') (hko : keyOk ag sg k = true) {v : Value}
  (hv : (m = .map none ∧ v = if ok then .tuple #[z, .bool false] else z) ∨
   ∃ b es clock r, m = .map (some b) ∧ M.get b = some (.map es clock) ∧ findK ag sg k es 0 = some r ∧ v = (match r with
    | some (_, v) => if ok then .tuple #[v, .bool true] else v
    | none => if ok then .tuple #[z, .bool false] else z)) : Gives P idf (Instr.lookup t m' k' ok) φ M w v M := by
 have hz0 : VRel φ z z := VRel.okC (zero_info hz).choose_spec.2.2
 rcases hv with ⟨rfl, rfl⟩ | ⟨b, es, clock, r, rfl, hg, hf, rfl⟩
 ·cases hm
  have hc := checkKey_sig hsg (keyOk_rel hk hko) true w
  have hfk := findKey_sig hsg (k := k') (es := []) (r := none) rfl w
  refine Gives.same h (v' := if ok then .tuple #[z, .bool false] else z) ?_ ?_
  ·cases ok <;> simp [Instr.lookup, run_underlying hu, hc, hfk, run_zero hz]
  ·cases ok
   ·exact hz0
   ·exact VRel.tup2 hz0 (.bool _)
 ·cases hm with
  | map _ c K hb =>
   obtain ⟨es', g1, g2⟩ := h.map hb hg
   have hget := run_get (P := P) g1 (by simp)
   have hc := checkKey_sig hsg (keyOk_rel hk hko) es'.isEmpty w
   rcases findK_rel hk g2 hf with ⟨rfl, hf'⟩ | ⟨j, v, v', rfl, hf', hvv⟩
   ·have hfk := findKey_sig hsg hf' w
    refine Gives.same h (v' := if ok then .tuple #[z, .bool false] else z) ?_ ?_
    ·cases ok <;> simp [Instr.lookup, run_underlying hu, hget, hc, hfk, run_zero hz]
    ·cases ok
     ·exact hz0
     ·exact VRel.tup2 hz0 (.bool _)
   ·have hfk := findKey_sig hsg hf' w
    refine Gives.same h (v' := if ok then .tuple #[v', .bool true] else v') ?_ ?_
    ·cases ok <;> simp [Instr.lookup, run_underlying hu, hget, hc, hfk]
    ·cases ok
     ·exact hvv
     ·exact VRel.tup2 hvv (.bool _)
theorem g_mapUpd {φ : Loc} {M : Mem} {w : World} (h : Rep P idf φ M w) {t kt e : TypeId} {ag : Bool} {sg : List Nat} (hu : P.underlying t = some (.map kt e)) (hsg : sigOf P kt = some (ag, sg))
  {b : Nat} {m' k k' x x' : Value} (hm : VRel φ (.map (some b)) m') (hk : VRel φ k k') (hx : VRel φ x x') (hko : keyOk ag sg k = true) {es : List MapEntry} {clock : Nat} (hg : M.get b = some (.map es clock)) (hbase : M.base ≤ b) {r : Option (Nat × Value)}
  (hf : findK ag sg k es 0 = some r) : ∃ w', (Instr.mapUpdate t m' k' x').run P w = .ok () w' ∧ Rep P idf φ (M.set b (mapPut es clock k x r)) w' ∧ Stp φ M w φ (M.set b (mapPut es clock k x r)) w' := by
 cases hm with
 | map _ c K hb =>
  obtain ⟨es', g1, g2⟩ := h.map hb hg
  have hget := run_get (P := P) g1 (by simp)
  have hc := checkKey_sig hsg (keyOk_rel hk hko) false w
  have hput := fun o' => run_put (P := P) g1 (by simp) o'
  rcases findK_rel hk g2 hf with ⟨rfl, hf'⟩ | ⟨j, v, v', rfl, hf', hvv⟩
  ·have hfk := findKey_sig hsg hf' w
   obtain ⟨p1, p2⟩ := h.put hb hbase (o := .map (es ++ [{ key := k, val := x, born := clock }]) (clock + 1)) (o' := .map (es'.push { key := k', val := x', born := clock }) (clock + 1)) (by rw [hg]; simp)
    (.map _ _ _ (by rw [Array.toList_push]; exact g2.append (.cons hk hx .nil)))
   exact ⟨_, by simp [Instr.mapUpdate, run_underlying hu, hget, hc, hfk, hput], p1, p2⟩
  ·have hfk := findKey_sig hsg hf' w
   obtain ⟨_, e', he1, he2, he3⟩ := findK_some hf'
   simp only [Nat.sub_zero] at he1
   have hsb := eqV_true he3
   have hold : ((es'[j]?).map (·.key)).getD k' = e'.key := by
    have : es'[j]? = some e' := by simpa using he1
    simp [this]
   have hstay : (Instr.keyThatStays e'.key k').run P w = .ok k' w := by simp [Instr.keyThatStays, hsb]
   obtain ⟨p1, p2⟩ := h.put hb hbase (o := .map (es.modify j fun e => { e with key := k, val := x }) clock) (o' := .map (es'.modify j fun e => { e with key := k', val := x' }) clock) (by rw [hg]; simp)
    (.map _ _ _ (by rw [Array.toList_modify]; exact g2.modify hk hx j))
   exact ⟨_, by simp [Instr.mapUpdate, run_underlying hu, hget, hc, hfk, hold, hstay, hput], p1, p2⟩
theorem g_delete {φ : Loc} {M : Mem} {w : World} (h : Rep P idf φ M w) {t tx ty kt e : TypeId} {ag : Bool} {sg : List Nat} (hu : P.underlying t = some (.map kt e)) (hsg : sigOf P kt = some (ag, sg))
  {b : Nat} {m' k k' : Value} (hm : VRel φ (.map (some b)) m') (hk : VRel φ k k') (hko : keyOk ag sg k = true) {es : List MapEntry} {clock : Nat} (hg : M.get b = some (.map es clock)) (hbase : M.base ≤ b) {r : Option (Nat × Value)}
  (hf : findK ag sg k es 0 = some r) : Gives P idf (Builtin.delete_ #[t, tx] ty #[m', k']) φ M w (.tuple #[]) (mapDel M b es clock r) := by
 cases hm with
 | map _ c K hb =>
  obtain ⟨es', g1, g2⟩ := h.map hb hg
  have hget := run_get (P := P) g1 (by simp)
  have hc := checkKey_sig hsg (keyOk_rel hk hko) es'.isEmpty w
  have hput := fun o' => run_put (P := P) g1 (by simp) o'
  rcases findK_rel hk g2 hf with ⟨rfl, hf'⟩ | ⟨j, v, v', rfl, hf', hvv⟩
  ·have hfk := findKey_sig hsg hf' w
   have hsame : wput w c (.map es' clock) = w := by
    unfold wput
    cases w with
    | mk heap tape drawn os output =>
     simp only at g1 ⊢
     congr 1
     apply Array.ext_getElem?
     intro i
     rw [Array.getElem?_setIfInBounds]
     split
     ·rename_i e; subst e
      split
      ·exact g1.symm
      ·rename_i hlt; exact absurd (Array.getElem?_eq_some_iff.1 g1).1 hlt
     ·rfl
   refine Gives.same h (v' := .tuple #[]) ?_ (.tuple _ _ rfl fun i x y h => by simp at h)
   simp [Builtin.delete_, run_underlying hu, hget, hc, hfk, hput, hsame]
  ·have hfk := findKey_sig hsg hf' w
   obtain ⟨_, e', he1, _, _⟩ := findK_some hf'
   simp only [Nat.sub_zero] at he1
   have hlt : j < es'.size := by have := (List.getElem?_eq_some_iff.1 he1).1; simpa using this
   obtain ⟨p1, p2⟩ := h.put hb hbase (o := .map (es.eraseIdx j) clock) (o' := .map (es'.eraseIdxIfInBounds j) clock) (by rw [hg]; simp)
    (.map _ _ _ (by
     have : (es'.eraseIdxIfInBounds j).toList = es'.toList.eraseIdx j := by
      simp [Array.eraseIdxIfInBounds, hlt]
     rw [this]; exact g2.eraseIdx j))
   exact ⟨φ, .tuple #[], _, by simp [Builtin.delete_, run_underlying hu, hget, hc, hfk, hput], .tuple _ _ rfl (fun i x y h => by simp at h), p1, p2⟩
theorem g_rangeS {φ : Loc} {M : Mem} {w : World} (h : Rep P idf φ M w) {t : TypeId} (hu : P.underlying t = some .string) {s : ByteArray} {x' : Value} (hx : VRel φ (.string s) x') :
  Gives P idf (Instr.range t x') φ M w (.pointer (some ⟨M.size, 0, none⟩)) (M.push (.siter s 0)) := by
 cases hx
 obtain ⟨h1, h2⟩ := h.alloc (o := .siter s 0) (o' := .stringIter s 0) (K := 0) (.siter _ _)
 exact ⟨_, .pointer (some ⟨w.heap.size, 0, none⟩), _, by simp [Instr.range, run_underlying hu], .ptr _ _ _ 0 (by simp [Loc.add]), h1, h2⟩
theorem g_nextS {φ : Loc} {M : Mem} {w : World} (h : Rep P idf φ M w) {t : TypeId} {b : Nat} {x' : Value} (hx : VRel φ (.pointer (some ⟨b, 0, none⟩)) x') {s : ByteArray} {pos : Nat} (hg : M.get b = some (.siter s pos)) {v : Value} {M' : Mem}
  (hv : (if pos < s.size then
        if M.base ≤ b then some (.tuple #[.bool true, .int .i64 pos, .int .i32 (Utf8.decode s pos).1], M.set b (.siter s (pos + (Utf8.decode s pos).2))) else none
    else some (.tuple #[.bool false], M) : Option (Value × Mem)) = some (v, M')) : Gives P idf (Instr.next x' true t) φ M w v M' := by
 cases hx with
 | ptr _ _ c K hb =>
  obtain ⟨o, o', g1, g2, g3⟩ := h.obj b c K hb
  rw [hg] at g1; cases g1
  cases g3 with
  | siter =>
   have hget := run_get (P := P) g2 (by simp)
   have hput := fun o' => run_put (P := P) g2 (by simp) o'
   split at hv
   ·rename_i hlt
    split at hv
    ·rename_i hbase
     cases hv
     obtain ⟨p1, p2⟩ := h.put hb hbase (o := .siter s (pos + (Utf8.decode s pos).2)) (o' := .stringIter s (pos + (Utf8.decode s pos).2)) (by rw [hg]; simp) (.siter _ _)
     refine ⟨φ, .tuple #[.bool true, goInt pos, .int .i32 (Utf8.decode s pos).1], _, ?_, VRel.tup3 (.bool _) (.int _ _) (.int _ _), p1, p2⟩
     simp [Instr.next, hget, hlt, hput]
    ·cases hv
   ·rename_i hlt
    cases hv
    refine Gives.same h (v' := .tuple #[.bool false]) ?_ (VRel.tup1 (.bool _))
    simp [Instr.next, hget, hlt]
theorem g_rangeM0 {φ : Loc} {M : Mem} {w : World} (h : Rep P idf φ M w) {t kt e : TypeId} (hu : P.underlying t = some (.map kt e)) {x' : Value} (hx : VRel φ (.map none) x') :
  Gives P idf (Instr.range t x') φ M w (.pointer (some ⟨M.size, 0, none⟩)) (M.push (.miter none)) := by
 cases hx
 obtain ⟨h1, h2⟩ := h.alloc (o := .miter none) (o' := .mapIter none 0 #[] 0) (K := 0) .mnil
 exact ⟨_, .pointer (some ⟨w.heap.size, 0, none⟩), _, by simp [Instr.range, run_underlying hu], .ptr _ _ _ 0 (by simp [Loc.add]), h1, h2⟩
theorem g_rangeM {φ : Loc} {M : Mem} {w : World} (h : Rep P idf φ M w) {t kt e : TypeId} (hu : P.underlying t = some (.map kt e)) {m clock : Nat} {es : List MapEntry} {x' : Value} (hx : VRel φ (.map (some m)) x') (hg : M.get m = some (.map es clock)) :
  Gives P idf (Instr.range t x') φ M w (.pointer (some ⟨M.size, 0, none⟩)) (M.push (.miter (some m))) := by
 cases hx with
 | map _ c K hb =>
  obtain ⟨es', g1, _⟩ := h.map hb hg
  have hget := run_get (P := P) g1 (by simp)
  have hne : m ≠ M.size := by have := Mem.lt_of_get hg; omega
  obtain ⟨h1, h2⟩ := h.alloc (o := .miter (some m)) (o' := .mapIter (some c) clock #[] clock) (K := 0) (.miter m c K clock clock (by simp [Loc.add, hne, hb]))
  exact ⟨_, .pointer (some ⟨w.heap.size, 0, none⟩), _, by simp [Instr.range, run_underlying hu, hget], .ptr _ _ _ 0 (by simp [Loc.add]), h1, h2⟩
theorem g_rangeL {φ : Loc} {M : Mem} {w : World} (h : Rep P idf φ M w) {t kt e : TypeId} (hu : P.underlying t = some (.map kt e)) {m clock : Nat} {es : List MapEntry} {x' : Value} (hx : VRel φ (.map (some m)) x') (hg : M.get m = some (.map es clock)) :
  Gives P idf (Instr.range t x') φ M w (.pointer (some ⟨M.size, 0, none⟩)) (M.push (.miterL m clock #[] clock)) := by
 cases hx with
 | map _ c K hb =>
  obtain ⟨es', g1, _⟩ := h.map hb hg
  have hget := run_get (P := P) g1 (by simp)
  have hne : m ≠ M.size := by have := Mem.lt_of_get hg; omega
  obtain ⟨h1, h2⟩ := h.alloc (o := .miterL m clock #[] clock) (o' := .mapIter (some c) clock #[] clock) (K := 0) (.miterL m c K clock clock #[] (by simp [Loc.add, hne, hb]))
  exact ⟨_, .pointer (some ⟨w.heap.size, 0, none⟩), _, by simp [Instr.range, run_underlying hu, hget], .ptr _ _ _ 0 (by simp [Loc.add]), h1, h2⟩
theorem ERel.find {φ : Loc} {b : Nat} : ∀ {es : List MapEntry} {es' : List MapEntry}, ERel φ es es' → ∀ {e : MapEntry}, es.find? (fun e => e.born == b) = some e → ∃ e', es'.find? (fun e => e.born == b) = some e' ∧ VRel φ e.key e'.key ∧ VRel φ e.val e'.val
 | _, _, .nil, e, h => by simp at h
 | _, _, .cons (n := n) hk hv t, e, h => by
  simp only [List.find?_cons] at h ⊢
  cases hn : n == b with
  | true => rw [hn] at h; simp only [Option.some.injEq] at h; subst h; exact ⟨_, rfl, hk, hv⟩
  | false => rw [hn] at h; exact t.find h
theorem g_entry {φ : Loc} {M : Mem} {w : World} (h : Rep P idf φ M w) {b m since clock st : Nat} {seen : Array Nat} {es : List MapEntry} {e : MapEntry} {x' : Value} (hx : VRel φ (.pointer (some ⟨b, 0, none⟩)) x') (hg : M.get b = some (.miterL m since seen clock)) (hs : seen.back? = some st)
  (hm : M.get m = some (.map es clock)) (he : es.find? (fun e => e.born == st) = some e) : Gives P idf (Instr.entry x') φ M w (.tuple #[e.key, e.val]) M := by
 cases hx with
 | ptr _ _ c K hb =>
  obtain ⟨o, o', g1, g2, g3⟩ := h.obj b c K hb
  rw [hg] at g1; cases g1
  cases g3 with
  | miterL _ m' K' s c' _ hφ =>
   have hget := run_get (P := P) g2 (by simp)
   obtain ⟨es', k1, k2⟩ := h.map hφ hm
   have hget2 := run_get (P := P) k1 (by simp)
   obtain ⟨e', h1, h2, h3⟩ := k2.find he
   rw [Array.find?_toList] at h1
   refine Gives.same h (v' := .tuple #[e'.key, e'.val]) ?_ (VRel.of_tuple (.cons h2 (.cons h3 .nil)))
   simp [Instr.entry, hget, hs, hget2, h1]
theorem g_nextM0 {φ : Loc} {M : Mem} {w : World} (h : Rep P idf φ M w) {t : TypeId} {b : Nat} {x' : Value} (hx : VRel φ (.pointer (some ⟨b, 0, none⟩)) x') (hg : M.get b = some (.miter none)) : Gives P idf (Instr.next x' false t) φ M w (.tuple #[.bool false]) M := by
 cases hx with
 | ptr _ _ c K hb =>
  obtain ⟨o, o', g1, g2, g3⟩ := h.obj b c K hb
  rw [hg] at g1; cases g1
  cases g3 with
  | mnil =>
   have hget := run_get (P := P) g2 (by simp)
   refine Gives.same h (v' := .tuple #[.bool false]) ?_ (VRel.tup1 (.bool _))
   simp [Instr.next, hget]
theorem g_nextM {φ : Loc} {M : Mem} {w : World} (h : Rep P idf φ M w) {t : TypeId} {b m clock : Nat} {x' : Value} (hx : VRel φ (.pointer (some ⟨b, 0, none⟩)) x') (hg : M.get b = some (.miter (some m))) (hm : M.get m = some (.map [] clock)) :
  Gives P idf (Instr.next x' false t) φ M w (.tuple #[.bool false]) M := by
 cases hx with
 | ptr _ _ c K hb =>
  obtain ⟨o, o', g1, g2, g3⟩ := h.obj b c K hb
  rw [hg] at g1; cases g1
  cases g3 with
  | miter _ m' K' s c' hφ =>
   have hget := run_get (P := P) g2 (by simp)
   obtain ⟨es', k1, k2⟩ := h.map hφ hm
   have he : es' = #[] := by
    have := k2.length
    exact Array.size_eq_zero_iff.1 (by simpa using this.symm)
   subst he
   have hget2 := run_get (P := P) k1 (by simp)
   refine Gives.same h (v' := .tuple #[.bool false]) ?_ (VRel.tup1 (.bool _))
   simp [Instr.next, hget, hget2, Question.forced]
end
end Go.Proofs.Ytifemfnjoobiiaa.Run
