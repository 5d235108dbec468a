/- Each operation of the program does what this session's small operation says: the builtins. No statement of the program's is proved here. -/
import Derived.Test.YtifemfnjoobiiaaRunH
import Derived.Lib.AppendZeros
import Derived.Lib.MakeNoZero
namespace Go.Proofs.Ytifemfnjoobiiaa.Run
open Go Go.RowKit
set_option linter.unusedVariables false
set_option linter.unusedSimpArgs false
section
variable {P : Program} {idf : FuncId → Bool}
theorem g_lenS {φ : Loc} {M : Mem} {w : World} (h : Rep P idf φ M w) {t ty : TypeId} {s : ByteArray} {x' : Value} (hx : VRel φ (.string s) x') (hu : P.underlying t = some .string) : Gives P idf (Builtin.len_ #[t] ty #[x']) φ M w (.int .i64 s.size) M := by
 cases hx
 exact Gives.same h (by simp [Builtin.len_, run_underlying hu, goInt]) (.int _ _)
theorem g_lenL {φ : Loc} {M : Mem} {w : World} (h : Rep P idf φ M w) {t ty e : TypeId} {a : Option Addr} {n c : Nat} {x' : Value} (hx : VRel φ (.slice a n c) x') (hu : P.underlying t = some (.slice e)) : Gives P idf (Builtin.len_ #[t] ty #[x']) φ M w (.int .i64 n) M := by
 cases hx <;> exact Gives.same h (by simp [Builtin.len_, run_underlying hu, goInt]) (.int _ _)
theorem g_lenH {φ : Loc} {M : Mem} {w : World} (h : Rep P idf φ M w) {t ty e : TypeId} {k : Nat} {x' : Value} (hx : VRel φ (.chan (some k)) x') (hu : P.underlying t = some (.slice e)) : Gives P idf (Builtin.len_ #[t] ty #[x']) φ M w (.int .i64 0) M := by
 cases hx; exact Gives.same h (by simp [Builtin.len_, run_underlying hu, goInt]) (.int _ _)
theorem g_lenM0 {φ : Loc} {M : Mem} {w : World} (h : Rep P idf φ M w) {t ty k e : TypeId} {x' : Value} (hx : VRel φ (.map none) x') (hu : P.underlying t = some (.map k e)) : Gives P idf (Builtin.len_ #[t] ty #[x']) φ M w (.int .i64 0) M := by
 cases hx
 exact Gives.same h (v' := .int .i64 0) (by simp [Builtin.len_, run_underlying hu, goInt]) (.int _ _)
theorem g_lenM {φ : Loc} {M : Mem} {w : World} (h : Rep P idf φ M w) {t ty k e : TypeId} {r : Nat} {x' : Value} (hx : VRel φ (.map (some r)) x') (hu : P.underlying t = some (.map k e)) {es : List MapEntry} {clock : Nat} (hg : M.get r = some (.map es clock)) :
  Gives P idf (Builtin.len_ #[t] ty #[x']) φ M w (.int .i64 es.length) M := by
 cases hx with
 | map b c K hb =>
  obtain ⟨es', g1, g2⟩ := h.map hb hg
  have hget := run_get (P := P) g1 (by simp)
  have : es'.size = es.length := by have := g2.length; simp at this; omega
  exact Gives.same h (v' := .int .i64 es.length) (by simp [Builtin.len_, run_underlying hu, hget, goInt, this]) (.int _ _)
theorem g_lenA {φ : Loc} {M : Mem} {w : World} (h : Rep P idf φ M w) {t ty e : TypeId} {n : Nat} {x' : Value} (hu : P.underlying t = some (.array n e) ∨ ∃ a, P.underlying t = some (.pointer a) ∧ P.underlying a = some (.array n e)) :
  Gives P idf (Builtin.len_ #[t] ty #[x']) φ M w (.int .i64 n) M := by
 rcases hu with hu | ⟨a, hu, hu2⟩
 ·refine Gives.same h (v' := .int .i64 n) ?_ (.int _ _)
  cases x' <;> simp [Builtin.len_, run_underlying hu, goInt]
 ·refine Gives.same h (v' := .int .i64 n) ?_ (.int _ _)
  cases x' <;> simp [Builtin.len_, run_underlying hu, run_underlying hu2, goInt]
theorem g_capA {φ : Loc} {M : Mem} {w : World} (h : Rep P idf φ M w) {t ty e : TypeId} {n : Nat} {x' : Value} (hu : P.underlying t = some (.array n e)) :
  Gives P idf (Builtin.cap_ #[t] ty #[x']) φ M w (.int .i64 n) M := by
 refine Gives.same h (v' := .int .i64 n) ?_ (.int _ _)
 cases x' <;> simp [Builtin.cap_, run_underlying hu, goInt]
theorem g_cap {φ : Loc} {M : Mem} {w : World} (h : Rep P idf φ M w) {t ty e : TypeId} {x x' v : Value} (hx : VRel φ x x') (hu : P.underlying t = some (.slice e))
  (hv : capV x = some v) : Gives P idf (Builtin.cap_ #[t] ty #[x']) φ M w v M := by
 unfold capV at hv
 cases hx with
 | sl0 => cases hv; exact Gives.same h (v' := .int .i64 0) (by simp [Builtin.cap_, run_underlying hu, goInt]) (.int _ _)
 | slx b off c K s len cap hb hl => cases hv; exact Gives.same h (v' := .int .i64 cap) (by simp [Builtin.cap_, run_underlying hu, goInt]) (.int _ _)
 | _ => cases hv
theorem g_minmax {φ : Loc} {M : Mem} {w : World} (h : Rep P idf φ M w) (mx : Bool) : ∀ {xs xs' : List Value} {x x' v : Value}, VRel φ x x' → LRel φ xs xs' → minmaxV mx x xs = some v →
  Gives P idf (if mx then xs'.foldlM Builtin.max2 x' else xs'.foldlM Builtin.min2 x') φ M w v M
 | [], _, x, x', v, hx, hxs, hv => by
  cases hxs
  simp [minmaxV] at hv; subst hv
  cases mx <;> exact Gives.same h (by simp) hx
 | y :: xs, _, x, x', v, hx, hxs, hv => by
  cases hxs with
  | cons hy ht =>
   cases hx with
   | int k a => cases hy with
    | int k2 b =>
     simp only [minmaxV] at hv
     have ih := g_minmax h mx (x := .int k (if mx then (if b > a then b else a) else (if b < a then b else a))) (x' := .int k (if mx then (if b > a then b else a) else (if b < a then b else a))) (.int _ _) ht hv
     cases mx
     ·simpa [List.foldlM_cons, Builtin.min2] using ih
     ·simpa [List.foldlM_cons, Builtin.max2] using ih
    | _ => simp [minmaxV] at hv
   | _ => simp [minmaxV] at hv
theorem usd0 (ts : Array TypeId) (ty : TypeId) (a b : Nat) : Builtin.unsafeSliceData_ ts ty #[.slice none a b] = pure (.pointer none) := rfl
theorem usd1 (ts : Array TypeId) (ty : TypeId) (a : Addr) (l c : Nat) (w : World) (hc : c ≠ 0) : (Builtin.unsafeSliceData_ ts ty #[.slice (some a) l c]).run P w = .ok (.pointer (some a)) w := by
 have : Builtin.unsafeSliceData_ ts ty #[.slice (some a) l c] = (if c ≠ 0 then pure (.pointer (some a)) else do
  if (← viewAt a.block).isSome then pure (.pointer (some a)) else pure (.pointer (some ⟨← newObj (.view a (← elemOf ty)), 0, none⟩))) := rfl
 rw [this, if_pos hc]; rfl
theorem ustr (pts : Array TypeId) (ty : TypeId) (p : Option Addr) (l : Value) : Builtin.unsafeString_ pts ty #[.pointer p, l] = (do
  let n ← asInt l
  let some pt := pts[0]? | stuck "unsafe.String: no argument types"
  if n < 0 then runtimePanic (.error "unsafe.String: len out of range")
  if n > IntKind.i64.max then unsupported (.unsafePointer "String: a length above the largest int")
  match p with
  | none =>
   if n = 0 then pure (.string .empty)
   else runtimePanic (.error "unsafe.String: ptr is nil and len is not zero")
  | some a =>
   if n = 0 then pure (.string .empty)
   else if ← variablesAt a (← elemOf pt) n.toNat then do
    let s ← loadBytes a .empty n.toNat
    freeze a n.toNat
    pure (.string s)
   else unsupported (.unsafePointer "String: not so many bytes at ptr")) := rfl
theorem g_sliceData {φ : Loc} {M : Mem} {w : World} (h : Rep P idf φ M w) {ts : Array TypeId} {ty : TypeId} {x x' v : Value} (hx : VRel φ x x')
  (hv : dataV x = some v) : Gives P idf (Builtin.unsafeSliceData_ ts ty #[x']) φ M w v M := by
 unfold dataV at hv
 cases hx with
 | sl0 => cases hv; exact Gives.same h (v' := .pointer none) (by rw [usd0]; rfl) .ptr0
 | slx b off c K s len cap hb hl =>
  simp only at hv
  split at hv
  ·cases hv
  ·rename_i hc
   cases hv
   exact Gives.same h (v' := .pointer (some ⟨c, off, none⟩)) (usd1 _ _ _ _ _ w hc) (.ptr _ _ _ _ hb)
 | slg b off c K len cap cap' hb hl hcc hK =>
  simp only at hv
  split at hv
  ·cases hv
  ·rename_i hc
   cases hv
   have hc' : ¬ cap' = 0 := by omega
   exact Gives.same h (v' := .pointer (some ⟨c, off, none⟩)) (usd1 _ _ _ _ _ w hc') (.ptr _ _ _ _ hb)
 | _ => cases hv
theorem run_loadBytes {φ : Loc} {w : World} {c : Nat} {c' : Array Value} {t : TypeId} {fr : Nat × Nat} (hg : w.heap[c]? = some (.cells c' t fr)) : ∀ (bs : List UInt8) (cs cs' : List Value) (off : Nat) (acc : ByteArray), bytesOf cs = some bs → LRel φ cs cs' →
  (∀ j v, cs'[j]? = some v → c'[off + j]? = some v) → (loadBytes ⟨c, off, none⟩ acc cs.length).run P w = .ok ⟨acc.data ++ bs.toArray⟩ w
 | bs, [], cs', off, acc, hb, hr, hc => by
  simp [bytesOf] at hb; subst hb
  simp [loadBytes]
 | bs, x :: cs, _, off, acc, hb, hr, hc => by
  cases hr with
  | cons hv ht =>
   unfold bytesOf at hb
   split at hb
   ·rename_i h0; cases h0
   ·rename_i b r e
    cases e
    simp only [Option.map_eq_some_iff] at hb
    obtain ⟨bs', hb', rfl⟩ := hb
    cases hv
    have h0 : w.cell? ⟨c, off, none⟩ = some (.int .u8 b) := by
     rw [cell_of_row w c _ c' t fr hg]
     simpa using hc 0 (.int .u8 b) rfl
    have ih := run_loadBytes hg bs' cs _ (off + 1) (acc.push b.toNat.toUInt8) hb' ht (fun j v hj => by have := hc (j + 1) v (by simpa using hj); rwa [show off + (j + 1) = off + 1 + j by omega] at this)
    simp only [List.length_cons, loadBytes, Sem.run_bind, run_load, h0, Result.andThen_ok, addr_add, ih]
    congr 1
    cases acc
    simp [ByteArray.push]
   ·cases hb
theorem g_uString {φ : Loc} {M M' : Mem} {w : World} (h : Rep P idf φ M w) {pt tn ty u : TypeId} (hp : P.underlying pt = some (.pointer u)) (hu1 : szOf P u = some 1) {p p' : Value} {k : IntKind} {n : Int} {n' : Value} (hx : VRel φ p p') (hn : VRel φ (.int k n) n') {v : Value}
  (hv : uStrV M u n p = some (v, M')) : Gives P idf (Builtin.unsafeString_ #[pt, tn] ty #[p', n']) φ M w v M' := by
 unfold uStrV at hv
 cases hn
 have hmax : IntKind.i64.max = 9223372036854775807 := by decide
 cases hx with
 | ptr0 =>
  simp only at hv
  split at hv
  ·rename_i h0
   cases hv
   subst h0
   refine Gives.same h (v' := .string .empty) ?_ (.str _)
   rw [ustr]; simp [asInt, asIntOf, hmax]
  ·cases hv
 | ptr b off c K hb =>
   simp only at hv
   split at hv
   ·rename_i h0
    cases hv
    subst h0
    refine Gives.same h (v' := .string .empty) ?_ (.str _)
    rw [ustr]; simp [asInt, asIntOf, hmax]
   ·rename_i h0
    split at hv
    ·rename_i cs ty' wr hg
     split at hv
     ·rename_i hc
      obtain ⟨hn0, hn1, hle, rfl, hbase⟩ := hc
      simp only [Option.map_eq_some_iff, Prod.mk.injEq] at hv
      obtain ⟨bs, hbs, rfl, rfl⟩ := hv
      obtain ⟨c', fr, g2, hl, hr, ho, hw, hK⟩ := h.cells hb hg
      have hlen : ((cs.drop off).take n.toNat).length = n.toNat := by simp; omega
      have hrel : LRel φ ((cs.drop off).take n.toNat) ((c'.toList.drop off).take n.toNat) := by
       have := (hr.drop off).take n.toNat
       rw [List.drop_take, List.take_take] at this
       rwa [show min n.toNat (cs.length - off) = n.toNat by omega] at this
      have hload := run_loadBytes (P := P) (φ := φ) (w := w) g2 bs _ _ off .empty hbs hrel (fun j v hj => by
       rw [List.getElem?_take] at hj
       split at hj
       ·simpa using hj
       ·cases hj)
      rw [hlen] at hload
      have hli := liesAt_self (p := P) (u := ty') (s := 1) (cellsOf_sz hu1) (by simp) (count := c'.size) (off := off) (n := n.toNat) (Nat.mod_one _) (by simp; omega)
      have hvar : (variablesAt ⟨c, off, none⟩ ty' n.toNat).run P w = .ok true w := by
       simp [variablesAt, World.shape?, g2, cellsOf_sz hu1, hli]
      have helem : (elemOf pt).run P w = .ok ty' w := by simp [elemOf, run_underlying hp]
      have hne : ¬ n.toNat = 0 := by omega
      have hfz : ∃ fr', (w.freeze ⟨c, off, none⟩ n.toNat).heap[c]? = some (.cells c' ty' fr') ∧ (∀ k, k ≠ c → (w.freeze ⟨c, off, none⟩ n.toNat).heap[k]? = w.heap[k]?) ∧ (w.freeze ⟨c, off, none⟩ n.toNat).heap.size = w.heap.size := by
       obtain ⟨lo, hi⟩ := fr
       refine ⟨(if lo == hi then (off, off + n.toNat) else (min lo off, max hi (off + n.toNat))), ?_, fun k hk => ?_, ?_⟩
       ·simp [World.freeze, hne, Array.getElem?_modify, g2]
       ·simp [World.freeze, hne, Array.getElem?_modify, Ne.symm hk]
       ·simp [World.freeze, hne]
      obtain ⟨fr', f1, f2, f3⟩ := hfz
      have hos : (w.freeze ⟨c, off, none⟩ n.toNat).os = w.os ∧ (w.freeze ⟨c, off, none⟩ n.toNat).tape = w.tape ∧ (w.freeze ⟨c, off, none⟩ n.toNat).output = w.output := by simp [World.freeze, hne]
      obtain ⟨p1, p2⟩ := h.write (w' := w.freeze ⟨c, off, none⟩ n.toNat) hb hbase (by rw [hg]; simp) f1 (o := .cells cs ty' false) (.cells _ _ _ _ _ hl hr ho (by simp) hK) f2 f3 hos.1 hos.2.1 hos.2.2
      refine ⟨φ, .string ⟨bs.toArray⟩, _, ?_, .str _, p1, p2⟩
      have hnn : ¬ n < 0 := by omega
      have hnm : ¬ n > IntKind.i64.max := by rw [hmax]; omega
      have e0 : ((ByteArray.empty).data ++ bs.toArray) = bs.toArray := by rw [show (ByteArray.empty).data = #[] from rfl]; simp
      rw [e0] at hload
      rw [ustr]
      have hnm' : n ≤ IntKind.i64.max := by rw [hmax]; omega
      have hnm2 : ¬ IntKind.i64.max < n := by rw [hmax]; omega
      simp [asInt, asIntOf, hnn, h0, helem, hvar, hload, hnm', hnm2]
      omega
     ·cases hv
    ·cases hv
 | _ => cases hv
theorem Rep.loadC {φ : Loc} {M : Mem} {w : World} (h : Rep P idf φ M w) {b c K off n : Nat} (hb : φ b = some (c, K)) {cs : List Value} (hg : M.loadN b off n = some cs) :
  ∃ cs' : List Value, LRel φ cs cs' ∧ cs.length = n ∧ cs.all Value.oneCell' = true ∧ ∀ j v, cs'[j]? = some v → w.cell? ((⟨c, off, none⟩ : Addr).add j) = some v := by
 unfold Mem.loadN at hg
 split at hg
 ·rename_i l t wr hget
  split at hg
  ·rename_i hle
   cases hg
   obtain ⟨c', fr, g2, hl, hr, ho, hw, hK⟩ := h.cells hb hget
   have hrel : LRel φ ((l.drop off).take n) ((c'.toList.drop off).take n) := by
    have := (hr.drop off).take n
    rw [List.drop_take, List.take_take] at this
    rwa [show min n (l.length - off) = n by omega] at this
   refine ⟨_, hrel, by simp; omega, ?_, fun j v hv => ?_⟩
   ·simp only [List.all_eq_true] at ho ⊢
    exact fun x hx => ho x (List.mem_of_mem_drop (List.mem_of_mem_take hx))
   ·rw [addr_add, cell_of_row w c _ c' t fr g2]
    rw [List.getElem?_take] at hv
    split at hv
    ·simpa using hv
    ·cases hv
  ·cases hg
 ·rename_i l hget
  split at hg
  ·rename_i hle
   obtain ⟨t, c', fr, g2, hl, hr⟩ := h.view hb hget
   obtain ⟨hrel, hlen, hone⟩ := view_rel (by simpa using hl) hr hle hg
   refine ⟨_, hrel, hlen, hone, fun j v hv => ?_⟩
   rw [addr_add, cell_of_row w c _ c' t fr g2]
   rw [List.getElem?_take] at hv
   split at hv
   ·simpa using hv
   ·cases hv
  ·cases hg
 ·cases hg
theorem src_ok {φ : Loc} {M : Mem} {w : World} (h : Rep P idf φ M w) {tx e' : TypeId} {size n : Nat} (hk : (∃ e', P.underlying tx = some (.slice e')) ∨ P.underlying tx = some .string) {x x' : Value} (hx : VRel φ x x') {new : List Value} (hn : lenV x = some n) (hs : srcOf M size x n = some new)
  (hkind : ∀ s, x = .string s → P.underlying tx = some .string) (hkind2 : ∀ a l c, x = .slice a l c → ∃ e', P.underlying tx = some (.slice e')) :
  ∃ new', LRel φ new new' ∧ new.all Value.oneCell' = true ∧ new.length = n * size ∧ Src P size tx x' n new' w := by
 unfold lenV at hn
 split at hn
 ·rename_i a l c
  cases hn
  obtain ⟨e', hu⟩ := hkind2 _ _ _ rfl
  cases hx with
  | sl0 =>
   simp only [srcOf] at hs
   cases hs
   exact ⟨[], .nil, rfl, by simp, Src.ofNil w hu 0⟩
  | slx b off c' K s _ _ hb hl =>
   simp only [srcOf] at hs
   obtain ⟨cs', g1, g2, g3, g4⟩ := h.loadC hb hs
   exact ⟨cs', g1, g3, g2, Src.ofSlice w hu ⟨c', off, none⟩ _ _ cs' (by rw [← g1.length, g2]) g4 (g1.oneCell g3)⟩
  | slg b off c' K _ _ cap' hb hl hcc hK =>
   simp only [srcOf] at hs
   obtain ⟨cs', g1, g2, g3, g4⟩ := h.loadC hb hs
   exact ⟨cs', g1, g3, g2, Src.ofSlice w hu ⟨c', off, none⟩ _ _ cs' (by rw [← g1.length, g2]) g4 (g1.oneCell g3)⟩
 ·rename_i s
  cases hn
  cases hx
  have hu := hkind s rfl
  simp only [srcOf] at hs
  split at hs
  ·rename_i h1
   subst h1
   cases hs
   have e : (s.extract 0 s.size).data.toList.map (fun b => Value.int .u8 b.toNat) = byteCells s := by simp [byteCells]
   rw [e]
   have hok : (byteCells s).all okS = true := by
    unfold byteCells
    rw [List.all_map]
    exact List.all_eq_true.2 fun x _ => rfl
   exact ⟨byteCells s, LRel.okS hok, all_okS hok, by rw [byteCells_length, Nat.mul_one], Src.ofString w hu s⟩
  ·cases hs
 ·simp only [srcOf] at hs; cases hs
 ·cases hn
theorem zeroCells_size (z : Array Value) (n : Nat) : (Builtin.zeroCells z n).size = n * z.size := by simp [Builtin.zeroCells]
theorem grownCap_ge {w : World} {need old : Nat} {e : TypeId} : need ≤ grownCap w need old e := by
 unfold grownCap; simp only [Question.cut]; omega
theorem g_append {φ : Loc} {M M' : Mem} {w : World} (h : Rep P idf φ M w) {t tx ty e : TypeId} {size bytes : Nat} {z : List Value} (hu : P.underlying t = some (.slice e)) (hz : elemZ P e = some (size, z)) (hb : bytesOfT P e = some bytes)
  (hk : (∃ e', P.underlying tx = some (.slice e')) ∨ P.underlying tx = some .string) {s s' x x' : Value} (hs : VRel φ s s') (hx : VRel φ x x') (hkind : ∀ b, x = .string b → P.underlying tx = some .string) (hkind2 : ∀ a l c, x = .slice a l c → ∃ e', P.underlying tx = some (.slice e')) (hkind3 : ∀ k, x = .chan (some k) → ∃ e', P.underlying tx = some (.slice e'))
  {v : Value} (hv : appendV M e bytes size s x = some (v, M')) : Gives P idf (Builtin.append_ #[t, tx] ty #[s', x']) φ M w v M' := by
 obtain ⟨i, y, hi, hy, hok, hsz, hs0, hyz, hzl⟩ := elemZ_info hz
 have hby : i.bytes = bytes := by simpa [bytesOfT, hi] using hb
 have hcs : P.cellsOf e = size := by simp [Program.cellsOf, hi, hsz]
 subst hsz
 have hysz : y.cells.size = i.size := by rw [← hyz] at hzl; simpa using hzl
 unfold appendV at hv
 split at hv
 ·rename_i base len cap n hn
  split at hv
  ·-- nothing is appended
   rename_i h0
   subst h0
   cases hv
   have hsrc : Src P i.size tx x' 0 [] w := by
    unfold lenV at hn
    split at hn
    ·rename_i a l c
     cases hn
     obtain ⟨e', hu'⟩ := hkind2 _ _ _ rfl
     cases hx with
     | sl0 => exact Src.ofNil w hu' 0
     | slx b off c' K s _ _ hb hl => exact Src.ofSlice w hu' _ 0 _ [] (by simp) (by simp) (by simp)
     | slg b off c' K _ _ cap' hb hl hcc hK => exact Src.ofSlice w hu' _ 0 _ [] (by simp) (by simp) (by simp)
    ·rename_i sb
     have hsb0 : sb.size = 0 := by simpa using hn
     cases hx
     have hus := hkind sb rfl
     refine ⟨.inr hus, fun _ => ?_, ?_, ?_, by simp, by simp⟩
     ·simp [Builtin.lenOf, hsb0]
     ·simp [Builtin.firstCells]
     ·simp [Builtin.firstCells]
    ·rename_i k
     obtain ⟨e', hu'⟩ := hkind3 _ rfl
     cases hx
     exact Src.ofSlice w hu' _ 0 _ [] (by simp) (by simp) (by simp)
    ·cases hn
   have hle : ∃ a c, s' = .slice a len c ∧ len ≤ c ∧ VRel φ (.slice base len cap) (.slice a len c) := by
    cases hs with
    | sl0 => exact ⟨none, 0, rfl, Nat.le_refl _, .sl0⟩
    | slx b off c' K s _ _ hb hl => exact ⟨_, _, rfl, hl, .slx _ _ _ _ _ _ _ hb hl⟩
    | slg b off c' K _ _ cap' hb hl hcc hK => exact ⟨_, _, rfl, by omega, .slg _ _ _ _ _ _ _ hb hl hcc hK⟩
   obtain ⟨a, c, rfl, hlc, hvr⟩ := hle
   exact Gives.same h (run_append_nothing w t tx ty e i hu hi a len c hlc x' hsrc) hvr
  ·rename_i hn0
   cases hsr : srcOf M i.size x n with
   | none => simp [hsr] at hv
   | some new =>
    simp only [hsr] at hv
    obtain ⟨new', hr, hone, hnl, hsrc⟩ := src_ok (e' := e) h hk hx hn hsr hkind hkind2
    split at hv
    ·rename_i hbnd
     obtain ⟨hbnd1, hbnd2⟩ := hbnd
     have grow : ∀ (base' : Option Addr) (cap' : Nat) (old old' : List Value), s' = .slice base' len cap' → LRel φ old old' → old.all Value.oneCell' = true → old.length = len * i.size → cap' < len + n →
       (Builtin.firstCells i.size len (.slice base' len cap')).run P w.drew = .ok old'.toArray w.drew →
       ∀ (M1 : Mem) (h1 : Rep P idf φ M1 w) (s1 : Stp φ M w φ M1 w), M1.size = M.size →
       Gives P idf (Builtin.append_ #[t, tx] ty #[s', x']) φ M w (.slice (some ⟨M1.size, 0, none⟩) (len + n) (len + n)) (M1.push (.cells (old ++ new) e true)) := by
      intro base' cap' old old' hse hor hoo hol hgt hfc M1 h1 s1 hsame
      subst hse
      have hfit := growslice_fits (bytes := i.bytes) hgt (by rw [hby]; omega)
      have hrun := run_append_grow_src (P := P) w t tx ty e i y hu hi hy base' len cap' old' hfc x' n new' hsrc hgt (by omega) hfit
      have hrep := h1.of_heap (w' := w.drew) rfl
      have hnl' : (old' ++ new').length = (len + n) * i.size := by
       rw [List.length_append, ← hor.length, ← hr.length, hol, hnl, Nat.add_mul]
      have hge : len + n ≤ grownCap w (len + n) cap' e := grownCap_ge
      have hcsz : ((old' ++ new').toArray ++ Builtin.zeroCells y.cells (grownCap w (len + n) cap' e - (len + n))).size = grownCap w (len + n) cap' e * i.size := by
       rw [Array.size_append, zeroCells_size, hysz]
       simp only [List.size_toArray]
       rw [hnl', ← Nat.add_mul]
       congr 1
       omega
      obtain ⟨a1, a2⟩ := hrep.alloc (o := .cells (old ++ new) e true) (o' := .cells ((old' ++ new').toArray ++ Builtin.zeroCells y.cells (grownCap w (len + n) cap' e - (len + n))) e) (K := grownCap w (len + n) cap' e)
       (.cells _ _ _ _ _ (by
        rw [hcsz, List.length_append, hol, hnl, ← Nat.add_mul]; exact Nat.mul_le_mul_right _ hge) (by
        have hl : (old ++ new).length = (old' ++ new').length := (hor.append hr).length
        have : ((old' ++ new').toArray ++ Builtin.zeroCells y.cells (grownCap w (len + n) cap' e - (len + n))).toList.take (old ++ new).length = old' ++ new' := by
         rw [hl]
         simp only [Array.toList_append, List.toList_toArray]
         exact List.take_left
        rw [this]
        exact (hor.append hr).mono (Loc.add_ext hrep.none_size)) (by simp only [List.all_append, hoo, hone, Bool.and_self]) (fun _ => rfl) (by rw [hcsz, hcs]; exact Nat.le_refl _))
      refine ⟨_, _, _, hrun, .slg _ _ w.heap.size (grownCap w (len + n) cap' e) _ _ _ (by simp [Loc.add]) (Nat.le_refl _) hge (fun _ => Nat.le_refl _), a1, ?_⟩
      exact s1.trans (Stp.trans (Stp.drew (w.drawn + 1)) a2)
     cases hs with
     | sl0 =>
      simp only at hv
      cases hv
      have := grow none 0 [] [] rfl .nil rfl (by simp) (by omega) (run_firstCells_none w.drew i.size 0 0 0) M h (Stp.refl _ _ _) rfl
      simpa using this
     | slx b off c K sp _ _ hbb hl =>
      simp only at hv
      split at hv
      ·rename_i hroom
       simp only [Option.map_eq_some_iff, Prod.mk.injEq] at hv
       obtain ⟨M2, hst, rfl, rfl⟩ := hv
       obtain ⟨w2, g1, g2, g3⟩ := h.storeN hbb hr hone hst
       refine ⟨φ, .slice (some ⟨c, off, none⟩) (len + n) cap, w2, ?_, .slx _ _ _ _ _ _ _ hbb hroom, g2, g3⟩
       rcases hsrc.kind with ⟨e', hk'⟩ | hk' <;> simp [Builtin.append_, run_underlying hu, run_underlying hk', sizeOf, typeInfo, hi, hsrc.len, hroom, hsrc.cells, addr_add, g1]
      ·rename_i hroom
       simp only [Option.map_eq_some_iff, Prod.mk.injEq] at hv
       obtain ⟨old, hld, rfl, rfl⟩ := hv
       obtain ⟨old', k1, k2, k3, k4⟩ := h.loadC hbb hld
       refine grow _ cap old old' rfl k1 k3 k2 (by omega) ?_ M h (Stp.refl _ _ _) rfl
       exact run_firstCells_some w.drew i.size len ⟨c, off, none⟩ len cap old' (by rw [← k1.length, k2]) (by simpa using k4)
     | slg b off c K _ _ cap' hbb hl hcc hK =>
      simp only at hv
      split at hv
      ·rename_i cs t' hg
       split at hv
       ·rename_i hc
        obtain ⟨rfl, rfl, hcl, hbase⟩ := hc
        cases hv
        obtain ⟨c', fr, g2, hle, hrr, ho, hw, hKc⟩ := h.cells hbb hg
        obtain rfl := hw rfl
        by_cases hroom : len + n ≤ cap'
        ·-- in place
         have hcK := hK rfl
         have hroom2 : (len + n) * i.size ≤ c'.size := by
          rw [hcs] at hKc
          exact Nat.le_trans (Nat.mul_le_mul_right _ (Nat.le_trans hroom hcK)) hKc
         have hst := run_storeCells_at P c (0 + len * i.size) t' new' 0 c' w g2 (by rw [← hr.length, hnl]; simp; rw [Nat.add_mul] at hroom2; omega) (hr.oneCell hone)
         have he2 : c'.toList.take (0 + len * i.size + 0) ++ new' ++ c'.toList.drop (0 + len * i.size + 0 + new'.length) = splice c'.toList (len * i.size) new' := by simp [splice]
         rw [he2] at hst
         have hspl : (splice c'.toList (len * i.size) new').length = c'.size := by
          rw [splice_length (by simp; rw [← hr.length, hnl, ← Nat.add_mul]; exact hroom2)]; simp
         obtain ⟨a1, a2⟩ := h.move hbb hbase (by rw [hg]; simp) (o := .cells (cs ++ new) t' true) (o' := .cells (splice c'.toList (len * i.size) new').toArray t' (0, 0)) (w' := w.setRow c (splice c'.toList (len * i.size) new').toArray)
          (setRow_heap w c c' _ t' _ g2) (.cells _ _ _ _ _ (by
           simp only [List.size_toArray]; rw [hspl, List.length_append, hcl, hnl, ← Nat.add_mul]; exact hroom2) (by
           have e3 : (splice c'.toList (len * i.size) new').toArray.toList.take (cs ++ new).length = (c'.toList.take cs.length) ++ new' := by
            simp only [List.toList_toArray, splice]
            rw [hcl, List.length_append, hr.length, hcl]
            rw [List.take_append_of_le_length (by simp; rw [Nat.add_mul] at hroom2; omega)]
            rw [List.take_of_length_le (by simp; omega)]
           rw [e3]
           exact (hrr.append hr).mono (Loc.add_ext h.none_size)) (by simp only [List.all_append, ho, hone, Bool.and_self]) (fun _ => rfl) (by simp only [List.size_toArray]; rw [hspl]; exact hKc))
          (fun k hk => setRow_other w c k _ hk) (by simp) rfl rfl rfl
         refine ⟨_, .slice (some ⟨c, 0, none⟩) (len + n) cap', _, ?_, .slg _ _ _ K _ _ _ (by simp [Loc.add]) (Nat.le_refl _) hroom (fun _ => hcK), a1, a2⟩
         rcases hsrc.kind with ⟨e', hk'⟩ | hk' <;> (rw [Nat.zero_add] at hst; simp [Builtin.append_, run_underlying hu, run_underlying hk', sizeOf, typeInfo, hi, hsrc.len, hroom, hsrc.cells, addr_add, hst])
        ·-- a new row
         obtain ⟨k1, k2⟩ := h.kill hbb hbase
         have hcell : ∀ j u, (c'.toList.take cs.length)[j]? = some u → w.cell? ((⟨c, 0, none⟩ : Addr).add j) = some u := by
          intro j u hj
          rw [addr_add, cell_of_row w c _ c' t' _ g2]
          rw [List.getElem?_take] at hj
          split at hj
          ·simpa using hj
          ·cases hj
         have := grow _ cap' cs (c'.toList.take cs.length) rfl hrr ho hcl (by omega) (run_firstCells_some w.drew i.size len ⟨c, 0, none⟩ len cap' _ (by rw [← hrr.length, hcl]) (by simpa using hcell)) (M.set b .dead) k1 k2 rfl
         simpa using this
       ·cases hv
      ·cases hv
    ·cases hv
 ·cases hv
theorem first_ok {φ : Loc} {M : Mem} {w : World} (h : Rep P idf φ M w) {size n : Nat} {x x' : Value} (hx : VRel φ x x') {new : List Value} (hs : srcOf M size x n = some new) (hn0 : n ≠ 0) (hl : ∃ l, lenV x = some l ∧ n ≤ l) :
  ∃ new', LRel φ new new' ∧ new.all Value.oneCell' = true ∧ (Builtin.firstCells size n x').run P w = .ok new'.toArray w := by
 obtain ⟨l, hl, hnl⟩ := hl
 unfold lenV at hl
 split at hl
 ·cases hl
  cases hx with
  | sl0 => omega
  | slx b off c K s _ _ hb _ =>
   simp only [srcOf] at hs
   obtain ⟨cs', g1, g2, g3, g4⟩ := h.loadN hb hs
   exact ⟨cs', g1, g3, by simpa [Builtin.firstCells] using g4⟩
  | slg b off c K _ _ cap' hb _ hcc hK =>
   simp only [srcOf] at hs
   obtain ⟨cs', g1, g2, g3, g4⟩ := h.loadN hb hs
   exact ⟨cs', g1, g3, by simpa [Builtin.firstCells] using g4⟩
 ·rename_i s
  cases hx
  simp only [srcOf] at hs
  split at hs
  ·cases hs
   have hok : ((s.extract 0 n).data.toList.map fun b => Value.int .u8 b.toNat).all okS = true := by
    rw [List.all_map]
    exact List.all_eq_true.2 fun x _ => rfl
   refine ⟨_, LRel.okS hok, all_okS hok, ?_⟩
   simp only [Builtin.firstCells, Sem.run_pure]
   congr 1
   apply Array.ext'
   simp
  ·cases hs
 ·cases hl; omega
 ·cases hl
theorem g_copy {φ : Loc} {M M' : Mem} {w : World} (h : Rep P idf φ M w) {t tx ty e : TypeId} {size : Nat} (hu : P.underlying t = some (.slice e)) (hz : szOf P e = some size) {d d' s s' : Value} (hd : VRel φ d d') (hs : VRel φ s s')
  {v : Value} (hv : copyV M size d s = some (v, M')) : Gives P idf (Builtin.copy_ #[t, tx] ty #[d', s']) φ M w v M' := by
 unfold copyV at hv
 split at hv
 ·rename_i base dl cap sl hsl
  have hlen : (Builtin.lenOf s').run P w = .ok sl w := by
   unfold lenV at hsl
   split at hsl
   ·cases hsl; cases hs <;> rfl
   ·cases hsl; cases hs; rfl
   ·cases hsl; cases hs; rfl
   ·cases hsl
  have hdl : ∃ a c, d' = .slice a dl c := by cases hd <;> exact ⟨_, _, rfl⟩
  simp only at hv
  split at hv
  ·rename_i h0
   cases hv
   obtain ⟨a, c, rfl⟩ := hdl
   have hmin : Nat.min sl dl = 0 := h0
   have hfc : (Builtin.firstCells size 0 s').run P w = .ok #[] w := by
    unfold lenV at hsl
    split at hsl
    ·cases hs with
     | sl0 => simp [Builtin.firstCells]
     | slx => simp [Builtin.firstCells, loadCells, loadCellsFrom]
     | slg => simp [Builtin.firstCells, loadCells, loadCellsFrom]
    ·cases hs; simp [Builtin.firstCells]
    ·cases hs; simp [Builtin.firstCells, loadCells, loadCellsFrom]
    ·cases hsl
   refine Gives.same h (v' := .int .i64 0) ?_ (.int _ _)
   cases a <;> simp [Builtin.copy_, run_underlying hu, hlen, hmin, run_sz hz w, hfc, goInt, storeCells]
  ·rename_i h0
   cases hsr : srcOf M size s (min sl dl) with
   | none => simp [hsr] at hv
   | some cs =>
    cases base with
    | none => simp [hsr] at hv
    | some a =>
     simp only [hsr, Option.map_eq_some_iff, Prod.mk.injEq] at hv
     obtain ⟨M2, hst, rfl, rfl⟩ := hv
     obtain ⟨cs', k1, k2, k3⟩ := first_ok h hs hsr h0 ⟨sl, hsl, Nat.min_le_left _ _⟩
     have hmin : Nat.min sl dl = min sl dl := rfl
     cases hd with
     | slx b off c K sp _ _ hb hl =>
      obtain ⟨w2, g1, g2, g3⟩ := h.storeN hb k1 k2 hst
      exact ⟨φ, .int .i64 (min sl dl : Nat), w2, by simp [Builtin.copy_, run_underlying hu, hlen, hmin, run_sz hz w, k3, goInt, g1], .int _ _, g2, g3⟩
     | slg b off c K _ _ cap' hb hl hcc hK =>
      obtain ⟨w2, g1, g2, g3⟩ := h.storeN hb k1 k2 hst
      exact ⟨φ, .int .i64 (min sl dl : Nat), w2, by simp [Builtin.copy_, run_underlying hu, hlen, hmin, run_sz hz w, k3, goInt, g1], .int _ _, g2, g3⟩
 ·cases hv
theorem g_appZ {φ : Loc} {M M' : Mem} {w : World} (h : Rep P idf φ M w) {t tn ty e : TypeId} {kn : IntKind} {size bytes : Nat} {z : List Value} (hu : P.underlying t = some (.slice e)) (hn : P.underlying tn = some (.int kn)) (hz : elemZ P e = some (size, z)) (hb : bytesOfT P e = some bytes)
  {tt : List Value} {sO xO : Operand} {s' x' : Value} (hs : VRel φ (ev tt sO) s') (hx : VRel φ (ev tt xO) x') {v : Value} (hv : opSem (.appZ e bytes size sO xO) tt M = some (v, M')) : Gives P idf (Builtin.append_ #[t, tn] ty #[s', x']) φ M w v M' := by
 obtain ⟨i, y, hi, hy, hok, hsz, hs0, hyz, hzl⟩ := elemZ_info hz
 have hby : i.bytes = bytes := by simpa [bytesOfT, hi] using hb
 have hcs : P.cellsOf e = size := by simp [Program.cellsOf, hi, hsz]
 subst hsz
 have hysz : y.cells.size = i.size := by rw [← hyz] at hzl; simpa using hzl
 simp only [opSem] at hv
 split at hv
 ·rename_i a b k n hS hX
  split at hv
  ·rename_i hc
   cases hv
   rw [hS] at hs
   rw [hX] at hx
   cases hs
   cases hx
   obtain ⟨h0, h1, h2⟩ := hc
   obtain ⟨m, rfl⟩ : ∃ m : Nat, n = (m : Int) := ⟨n.toNat, by omega⟩
   simp only [Int.toNat_natCast] at h2 ⊢
   have hrun := Lib.run_append_nil_zeros (P := P) w t tn ty e i y k kn hu hn hi hy m (by omega) (by omega) (by omega) (by rw [hby]; omega)
   have hrep := h.of_heap (w' := w.drew) rfl
   have hge : m ≤ grownCap w m 0 e := grownCap_ge
   obtain ⟨a1, a2⟩ := hrep.alloc (o := .cells [] e true) (o' := .cells (Builtin.zeroCells y.cells m ++ Builtin.zeroCells y.cells (grownCap w m 0 e - m)) e) (K := grownCap w m 0 e)
    (.cells _ _ _ _ _ (by simp) (by simpa using LRel.nil) (by rfl) (fun _ => rfl) (by
     rw [Array.size_append, zeroCells_size, zeroCells_size, hysz, hcs, ← Nat.add_mul]
     exact Nat.mul_le_mul_right _ (by omega)))
   exact ⟨_, _, _, hrun, .slg _ _ w.heap.size (grownCap w m 0 e) _ _ _ (by simp [Loc.add]) (Nat.le_refl _) hge (fun _ => Nat.le_refl _), a1, Stp.trans (Stp.drew (w.drawn + 1)) a2⟩
  ·cases hv
 ·cases hv
theorem g_noZero {φ : Loc} {M M' : Mem} {w : World} (h : Rep P idf φ M w) {t e : TypeId} (hu : P.underlying t = some (.slice e)) (hz : szOf P e = some 1)
  {tt : List Value} {xO : Operand} {x' : Value} (hx : VRel φ (ev tt xO) x') {v : Value} (hv : opSem (.noZero e xO) tt M = some (v, M')) (ps : Array TypeId) : Gives P idf (Extern.BytealgMakeNoZero.makeNoZero ps #[t] #[x']) φ M w v M' := by
 have hcs : P.cellsOf e = 1 := by
  unfold szOf at hz
  obtain ⟨i, hi, h1⟩ := Option.map_eq_some_iff.1 hz
  simp [Program.cellsOf, hi, h1]
 simp only [opSem] at hv
 split at hv
 ·rename_i n hX
  split at hv
  ·rename_i hc
   cases hv
   rw [hX] at hx
   cases hx
   obtain ⟨h0, h1⟩ := hc
   obtain ⟨m, rfl⟩ : ∃ m : Nat, n = (m : Int) := ⟨n.toNat, by omega⟩
   simp only [Int.toNat_natCast]
   obtain ⟨cs, hrun, hle, _⟩ := Lib.run_makeNoZero (P := P) w ps t e hu m (by omega)
   have hrep := h.of_heap (w' := w.drew.drew) rfl
   obtain ⟨a1, a2⟩ := hrep.alloc (o := .cells [] e true) (o' := .cells cs e) (K := cs.size) (.cells _ _ _ _ _ (by simp) (by simpa using LRel.nil) (by rfl) (fun _ => rfl) (by rw [hcs]; omega))
   exact ⟨_, _, _, hrun, .slg _ _ w.heap.size cs.size _ _ _ (by simp [Loc.add]) (Nat.le_refl _) hle (fun _ => Nat.le_refl _), a1, Stp.trans (Stp.drew (w.drawn + 2)) a2⟩
  ·cases hv
 ·cases hv
end
end Go.Proofs.Ytifemfnjoobiiaa.Run
