/- From the machine's memory to the small memory of this session's interpreter, and back: what is shown of a call over the whole of memory, seen as far as it can be, the program answers. No statement of the program's is proved here. -/
import Derived.Test.YtifemfnjoobiiaaSpec
import Derived.ChangeArms
import Derived.OpenShut
import Derived.Deep.Slices
namespace Go.Proofs.Ytifemfnjoobiiaa.Run
open Go Go.RowKit
set_option linter.unusedVariables false
set_option linter.unusedSimpArgs false
def seeV (n : Nat) : Value → Option Value
 | .bool b => some (.bool b)
 | .int k z => some (.int k z)
 | .string s => some (.string s)
 | .pointer none => some (.pointer none)
 | .pointer (some ⟨c, off, none⟩) => if c < n then some (.pointer (some ⟨c, off, none⟩)) else none
 | .slice none 0 0 => some (.slice none 0 0)
 | .slice (some ⟨c, off, none⟩) len cap => if c < n ∧ len ≤ cap then some (.slice (some ⟨c, off, some 0⟩) len cap) else if len = 0 then some (.chan (some 0)) else none
 | .slice (some ⟨_, _, some _⟩) 0 _ => some (.chan (some 0))
 | _ => none
def phi (n : Nat) : Loc := fun b => if b < n then some (b, 0) else none
theorem seeV_rel {n : Nat} {v x : Value} (h : seeV n v = some x) : x.oneCell' = true ∧ VRel (phi n) x v := by
 unfold seeV at h
 split at h
 ·cases h; exact ⟨rfl, .bool _⟩
 ·cases h; exact ⟨rfl, .int _ _⟩
 ·cases h; exact ⟨rfl, .str _⟩
 ·cases h; exact ⟨rfl, .ptr0⟩
 ·split at h
  ·rename_i hc; cases h; exact ⟨rfl, .ptr _ _ _ 0 (by simp [phi, hc])⟩
  ·cases h
 ·cases h; exact ⟨rfl, .sl0⟩
 ·split at h
  ·rename_i hc; cases h; exact ⟨rfl, .slx _ _ _ 0 _ _ _ (by simp [phi, hc.1]) hc.2⟩
  ·split at h
   ·rename_i hl; subst hl; cases h; exact ⟨rfl, .hole _ _ _⟩
   ·cases h
 ·cases h; exact ⟨rfl, .hole _ _ _⟩
 ·cases h
def seeO (n : Nat) : Obj → AObj
 | .cells c _ _ => .view (c.toList.map (seeV n))
 | _ => .dead
def seeL (n : Nat) (l : List Obj) : Mem := l.foldl (fun M o => M.push (seeO n o)) ⟨0, 0, .e⟩
def seeW (w : World) : Mem := (seeL w.heap.size w.heap.toList).freeze
theorem fold_push (f : Obj → AObj) : ∀ (l : List Obj) (M : Mem), (l.foldl (fun M o => M.push (f o)) M).size = M.size + l.length ∧ ∀ b, (l.foldl (fun M o => M.push (f o)) M).get b = if b < M.size then M.get b else (l[b - M.size]?).map f
 | [], M => ⟨rfl, fun b => by
   by_cases hb : b < M.size
   ·rw [if_pos hb]; rfl
   ·rw [if_neg hb]
    show M.get b = _
    unfold Mem.get
    rw [if_neg hb]; simp⟩
 | o :: l, M => by
  obtain ⟨h1, h2⟩ := fold_push f l (M.push (f o))
  have hs : (M.push (f o)).size = M.size + 1 := rfl
  refine ⟨by rw [List.foldl_cons, h1, hs, List.length_cons]; omega, fun b => ?_⟩
  rw [List.foldl_cons, h2]
  by_cases hb : b < M.size
  ·rw [if_pos (by omega), if_pos hb, Mem.get_push, if_neg (by omega)]
  ·rw [if_neg hb]
   by_cases he : b = M.size
   ·subst he
    rw [if_pos (by omega), Mem.get_push, if_pos rfl, Nat.sub_self]; rfl
   ·rw [if_neg (by omega), hs]
    rw [show b - M.size = (b - (M.size + 1)) + 1 by omega]; rfl
theorem seeL_size (n : Nat) (l : List Obj) : (seeL n l).size = l.length ∧ ∀ b, (seeL n l).get b = (l[b]?).map (seeO n) := by
 obtain ⟨h1, h2⟩ := fold_push (seeO n) l ⟨0, 0, .e⟩
 refine ⟨by rw [seeL, h1]; simp, fun b => ?_⟩
 rw [seeL, h2, if_neg (by simp)]; rfl
theorem seeW_base (w : World) : (seeW w).base = (seeW w).size := rfl
theorem seeW_get (w : World) (b : Nat) : (seeW w).get b = (w.heap[b]?).map (seeO w.heap.size) := by
 simp only [seeW, Mem.freeze_get, (seeL_size _ _).2, Array.getElem?_toList]
section
variable {P : Program} {idf : FuncId → Bool}
theorem seeW_rep (w : World) : Rep P idf (phi w.heap.size) (seeW w) w := by
 refine ⟨Nat.le_refl _, fun b c K h => ?_, fun b₁ b₂ c K₁ K₂ h1 h2 _ _ => ?_⟩
 ·unfold phi at h
  split at h
  ·rename_i hb
   cases h
   refine ⟨seeO w.heap.size w.heap[b], w.heap[b], by rw [seeW_get]; simp [hb], by simp [hb], ?_⟩
   generalize w.heap[b] = o
   cases o with
   | cells c t fr =>
    refine .view _ _ _ _ (by simp) fun i v hi => ?_
    rw [List.getElem?_map] at hi
    cases hc : c.toList[i]? with
    | none => rw [hc] at hi; cases hi
    | some y =>
     rw [hc] at hi
     have := seeV_rel (Option.some.inj hi)
     exact ⟨this.1, y, rfl, this.2⟩
   | _ => exact .dead _
  ·cases h
 ·unfold phi at h1 h2
  split at h1
  ·split at h2
   ·cases h1; cases h2; rfl
   ·cases h2
  ·cases h1
theorem calls_of_W (hmo : P.follows .mixedOrders = true) (ID : IdOK P idf) {F : Funs} {E : Orac} (hF : FunsOK P idf F) (hE : OracOK P idf E) {f : FuncId} {args : List Value} {r : Value} (hr : okT r = true) {w : World}
  (h : W F E (.func (.func f) #[] #[]) args (seeW w) (fun v _ => v = r)) {args' : Array Value} (ha : LRel (phi w.heap.size) args args'.toList) : Calls P f args' w fun e w' => e = .returned r ∧ Below w.heap.size w w' := by
 obtain ⟨n, v, M', h1, rfl⟩ := h
 exact run_pure hmo ID hF hE hr (seeW_base w) h1 (seeW_rep w) ha
end
section
variable {H : Type} {enc : TypeId × Value → H} {P : Program} {w : World} {base : Nat} {spare : Nat → Bool} {held : Bool}
def Reads (enc : TypeId × Value → H) (P : Program) (w : World) (base : Nat) (spare : Nat → Bool) (held : Bool) (t : TypeId) (cs : List Value) : Prop := ∃ fuel x, DataW.trod enc P w base spare held fuel t cs = some x
def Cells (enc : TypeId × Value → H) (P : Program) (w : World) (base : Nat) (spare : Nat → Bool) (held : Bool) (t : TypeId) (fs : List (Value → Prop)) : Prop :=
 ∀ cs, Reads enc P w base spare held t cs → cs.length = fs.length ∧ ∀ (j : Nat) (v : Value) (p : Value → Prop), cs[j]? = some v → fs[j]? = some p → p v
def isInt (k : IntKind) (v : Value) : Prop := ∃ n, v = .int k n ∧ (Lit.int k n).wf = true
def isBool (v : Value) : Prop := ∃ b, v = .bool b
theorem Cells.int {t : TypeId} {k : IntKind} (ht : P.underlying t = some (.int k)) : Cells enc P w base spare held t [isInt k] := by
 rintro cs ⟨fuel, x, h⟩
 obtain ⟨n, rfl, _, hw⟩ := DataW.trod_int ht h
 refine ⟨rfl, fun j v p hv hp => ?_⟩
 cases j with
 | zero => cases hv; cases hp; exact ⟨n, rfl, hw⟩
 | succ j => simp at hv
theorem Cells.bool {t : TypeId} (ht : P.underlying t = some .bool) : Cells enc P w base spare held t [isBool] := by
 rintro cs ⟨fuel, x, h⟩
 obtain ⟨n, rfl, _⟩ := DataW.trod_bool ht h
 refine ⟨rfl, fun j v p hv hp => ?_⟩
 cases j with
 | zero => cases hv; cases hp; exact ⟨n, rfl⟩
 | succ j => simp at hv
inductive FieldsOK (enc : TypeId × Value → H) (P : Program) (w : World) (base : Nat) (spare : Nat → Bool) (held : Bool) : Nat → List (TypeId × Nat) → List (Value → Prop) → Prop
 | nil (o : Nat) : FieldsOK enc P w base spare held o [] []
 | cons {o : Nat} {t : TypeId} {fs gs : List (Value → Prop)} {r : List (TypeId × Nat)} (h : Cells enc P w base spare held t fs) (hs : P.cellsOf t = fs.length) (hr : FieldsOK enc P w base spare held (o + fs.length) r gs) : FieldsOK enc P w base spare held o ((t, o) :: r) (fs ++ gs)
theorem FieldsOK.at {o : Nat} {r : List (TypeId × Nat)} {gs : List (Value → Prop)} (h : FieldsOK enc P w base spare held o r gs) {cs : List Value} (hl : o + gs.length ≤ cs.length)
  (hf : ∀ q ∈ r, Reads enc P w base spare held q.1 ((cs.drop q.2).take (P.cellsOf q.1))) : ∀ (j : Nat) (v : Value) (p : Value → Prop), cs[o + j]? = some v → gs[j]? = some p → p v := by
 induction h with
 | nil o => intro j v p _ hp; simp at hp
 | cons h hs hr ih =>
  rename_i o t fs gs r
  intro j v p hv hp
  simp only [List.length_append] at hl
  by_cases hj : j < fs.length
  ·rw [List.getElem?_append_left hj] at hp
   have h1 := hf (t, o) List.mem_cons_self
   refine (h _ h1).2 j v p ?_ hp
   rw [hs, List.getElem?_take, if_pos hj, List.getElem?_drop]
   exact hv
  ·rw [List.getElem?_append_right (by omega)] at hp
   refine ih (by omega) (fun q hq => hf q (List.mem_cons_of_mem _ hq)) (j - fs.length) v p ?_ hp
   rw [← hv]; congr 1; omega
theorem Cells.struct {t : TypeId} {fs : Array Field} {L : List (TypeId × Nat)} {gs : List (Value → Prop)} (ht : P.underlying t = some (.struct fs)) (hL : (fs.toList.map fun f => (f.type, f.offset)) = L) (hF : FieldsOK enc P w base spare held 0 L gs) (hc : P.cellsOf t = gs.length) : Cells enc P w base spare held t gs := by
 rintro cs ⟨fuel, x, h⟩
 obtain ⟨xs, n, _, _, hl, hxl, hf⟩ := DataW.trod_struct ht h
 refine ⟨hl.trans hc, fun j v p hv hp => ?_⟩
 refine hF.at (cs := cs) (by omega) (fun q hq => ?_) j v p (by simpa using hv) hp
 subst hL
 obtain ⟨g, hg, rfl⟩ := List.mem_map.1 hq
 obtain ⟨i, hi, hgi⟩ := List.getElem_of_mem hg
 have h1 := hf i g (by rw [← hgi]; simp)
 have h2 : i < xs.length := by rw [hxl]; simpa using hi
 exact ⟨n, _, h1.trans (List.getElem?_eq_getElem h2)⟩
theorem sl_of {α : Type} [E : Enc α] {t e : TypeId} {ok : α → Prop} (ht : P.underlying t = some (.slice e)) (hk : P.cellsOf e = E.k)
  (he : ∀ cs, Reads enc P w base spare held e cs → ∃ a : α, cs.map (seeV w.heap.size) = (E.enc a).map some ∧ ok a) {v : Value} (hsp : ∀ a len cap, v = .slice (some a) len cap → a.spot = none ∧ a.block < w.heap.size) (h : Reads enc P w base spare held t [v]) :
  ∃ x, seeV w.heap.size v = some x ∧ ∃ L : List α, Sl (seeW w) x L ∧ ∀ a ∈ L, ok a := by
 obtain ⟨fuel, x, h⟩ := h
 rcases Go.Deep.open_slice ht h with ⟨hc, _⟩ | ⟨a, len, cap, m, n, D, Pl, hcs, hb, hl, hm, hmm, _, hi⟩
 ·cases hc
  exact ⟨_, rfl, [], Sl.nil _, by simp⟩
 ·cases hcs
  obtain ⟨s1, s2⟩ := hsp a len cap rfl
  obtain ⟨blk, off, sp⟩ := a
  simp only at s1 s2
  subst s1
  have hsee : seeV w.heap.size (.slice (some ⟨blk, off, none⟩) len cap) = some (.slice (some ⟨blk, off, some 0⟩) len cap) := by simp only [seeV, if_pos (And.intro s2 hl)]
  refine ⟨_, hsee, ?_⟩
  have hlm : len ≤ m := by rw [hmm]; split <;> omega
  have hall : ∀ i : Fin len, ∃ z : α, (∃ cs', w.cells? base ((⟨blk, off, none⟩ : Addr).add (i * P.cellsOf e)) (P.cellsOf e) = some cs' ∧ cs'.map (seeV w.heap.size) = (E.enc z).map some) ∧ ok z := fun i => by
   obtain ⟨cs', h1, h2⟩ := hi i (by omega)
   obtain ⟨z, h3, h4⟩ := he cs' ⟨_, _, h2⟩
   exact ⟨z, ⟨cs', h1, h3⟩, h4⟩
  obtain ⟨g, hg⟩ := Classical.axiomOfChoice hall
  refine ⟨List.ofFn g, ?_, fun z hz => ?_⟩
  rotate_left
  ·obtain ⟨i, rfl⟩ := List.mem_ofFn.1 hz
   exact (hg i).2
  refine ⟨_, cap, by rw [List.length_ofFn], by rw [List.length_ofFn]; exact hl, ?_⟩
  by_cases h0 : len = 0
  ·left; subst h0; rfl
  right
  refine ⟨blk, off, some 0, rfl, ?_, by simp⟩
  have kpos := E.pos
  obtain ⟨c, ty, fr, hblk⟩ : ∃ c ty fr, w.heap[blk]? = some (.cells c ty fr) := by
   obtain ⟨⟨cs', h1, _⟩, _⟩ := hg ⟨0, by omega⟩
   obtain ⟨_, hcl, hat⟩ := World.cells?_some h1
   have h2 := hat 0 (by omega)
   rw [Addr.add] at h2
   have h3 : cs'[0]? = some cs'[0] := by rw [List.getElem?_eq_getElem (by omega)]
   rw [h3] at h2
   unfold World.cell? at h2
   split at h2
   ·rename_i c ty fr hc
    refine ⟨c, ty, fr, ?_⟩
    simpa [Addr.add] using hc
   ·cases h2
  have key : ∀ (i j : Nat), i < len → j < E.k → ∃ y, c.toList[off + i * E.k + j]? = some y ∧ seeV w.heap.size y = (flat (List.ofFn g))[i * E.k + j]? := by
   intro i j hi' hj
   obtain ⟨⟨cs', h1, h3⟩, _⟩ := hg ⟨i, hi'⟩
   obtain ⟨_, hcl, hat⟩ := World.cells?_some h1
   have h2 := hat j (by omega)
   have hj2 : j < cs'.length := by omega
   rw [List.getElem?_eq_getElem hj2] at h2
   refine ⟨cs'[j], ?_, ?_⟩
   ·rw [Go.Deep.add_add, hk] at h2
    unfold World.cell? at h2
    simp only [addr_add] at h2
    rw [hblk] at h2
    simp only [Option.isSome_none, Bool.false_eq_true, if_false] at h2
    rw [Array.getElem?_toList]
    rw [← h2]
    congr 1
    omega
   ·have h4 := congrArg (fun l => l[j]?) h3
    simp only [List.getElem?_map, List.getElem?_eq_getElem hj2, Option.map_some] at h4
    have h5 : (flat (List.ofFn g))[i * E.k + j]? = (E.enc (g ⟨i, hi'⟩))[j]? := by
     have h6 : (List.ofFn g)[i]? = some (g ⟨i, hi'⟩) := by rw [List.getElem?_ofFn, dif_pos hi']
     have h7 := congrArg (fun l => l[j]?) (flat_at h6)
     simp only [List.getElem?_take, if_pos hj, List.getElem?_drop] at h7
     exact h7
    rw [h5]
    cases hq : (E.enc (g ⟨i, hi'⟩))[j]? with
    | none => rw [hq] at h4; cases h4
    | some z => rw [hq] at h4; exact Option.some.inj h4
  have hlen : (flat (List.ofFn g)).length = len * E.k := by rw [flat_len, List.length_ofFn]
  have hsz : off + len * E.k ≤ c.toList.length := by
   obtain ⟨y, h1, _⟩ := key (len - 1) (E.k - 1) (by omega) (by omega)
   have h2 := (List.getElem?_eq_some_iff.1 h1).1
   have h3 : (len - 1) * E.k + E.k = len * E.k := by
    rw [← Nat.succ_mul]; congr 1; omega
   omega
  have hM : (seeW w).get blk = some (.view (c.toList.map (seeV w.heap.size))) := by rw [seeW_get, hblk]; rfl
  rw [List.length_ofFn]
  simp only [Mem.loadN, hM, List.length_map, if_pos hsz]
  have : ((c.toList.map (seeV w.heap.size)).drop off).take (len * E.k) = (flat (List.ofFn g)).map some := by
   apply List.ext_getElem?
   intro q
   by_cases hq : q < len * E.k
   ·have hdm : q / E.k * E.k + q % E.k = q := by rw [Nat.mul_comm]; exact Nat.div_add_mod q E.k
    obtain ⟨y, h1, h2⟩ := key (q / E.k) (q % E.k) ((Nat.div_lt_iff_lt_mul kpos).2 hq) (Nat.mod_lt _ kpos)
    rw [hdm] at h2
    rw [Nat.add_assoc, hdm] at h1
    rw [List.getElem?_take, if_pos hq, List.getElem?_drop, List.getElem?_map, h1, List.getElem?_map, Option.map_some, h2]
    rw [List.getElem?_eq_getElem (by omega)]
    rfl
   ·rw [List.getElem?_eq_none (by simp; omega), List.getElem?_eq_none (by simp; omega)]
  rw [this]
  exact allSome_map _
theorem sl_any {α : Type} [E : Enc α] {t e : TypeId} {ok : α → Prop} (ht : P.underlying t = some (.slice e)) (hk : P.cellsOf e = E.k)
  (he : ∀ cs, Reads enc P w base spare held e cs → ∃ a : α, cs.map (seeV w.heap.size) = (E.enc a).map some ∧ ok a) {v : Value} (h : Reads enc P w base spare held t [v]) :
  ∃ x, seeV w.heap.size v = some x ∧ ∃ L : List α, SlH (seeW w) x L ∧ ∀ a ∈ L, ok a := by
 by_cases hsp : ∀ a len cap, v = .slice (some a) len cap → a.spot = none ∧ a.block < w.heap.size
 ·obtain ⟨x, h1, L, h2, h3⟩ := sl_of ht hk he hsp h
  exact ⟨x, h1, L, .inl h2, h3⟩
 obtain ⟨a, len, cap, rfl, hno⟩ : ∃ a len cap, v = .slice (some a) len cap ∧ ¬ (a.spot = none ∧ a.block < w.heap.size) := by
  refine Classical.byContradiction fun hq => hsp fun a len cap hv => Classical.byContradiction fun hn => hq ⟨a, len, cap, hv, hn⟩
 obtain ⟨fuel, x, h⟩ := h
 rcases Go.Deep.open_slice ht h with ⟨hc, _⟩ | ⟨a', len', cap', m, n, D, Pl, hcs, hb, hl, hm, hmm, _, hi⟩
 ·cases hc
 ·cases hcs
  have h0 : len = 0 := by
   refine Classical.byContradiction fun h0 => hno ?_
   have kpos := E.pos
   obtain ⟨cs', h1, _⟩ := hi 0 (by rw [hmm]; split <;> omega)
   obtain ⟨_, hcl, hat⟩ := World.cells?_some h1
   have h2 := hat 0 (by omega)
   rw [List.getElem?_eq_getElem (by omega : 0 < cs'.length)] at h2
   have ha0 : (a.add (0 * P.cellsOf e)).add 0 = a := by simp [Addr.add]
   rw [ha0] at h2
   unfold World.cell? at h2
   split at h2
   ·rename_i c ty fr hg
    by_cases hs : a.spot.isSome = true
    ·rw [if_pos hs] at h2; cases h2
    ·refine ⟨?_, (Array.getElem?_eq_some_iff.1 hg).1⟩
     cases hq : a.spot with
     | none => rfl
     | some k => rw [hq] at hs; exact absurd rfl hs
   ·cases h2
  subst h0
  refine ⟨.chan (some 0), ?_, [], .inr ⟨rfl, 0, rfl⟩, by simp⟩
  obtain ⟨b, off, sp⟩ := a
  cases sp with
  | some k => rfl
  | none =>
   have : ¬ b < w.heap.size := fun hb => hno ⟨rfl, hb⟩
   simp only [seeV]
   rw [if_neg (fun hq => this hq.1)]; rfl
theorem Cells.slice {α : Type} [E : Enc α] {t e : TypeId} {ok : α → Prop} (ht : P.underlying t = some (.slice e)) (hk : P.cellsOf e = E.k)
  (he : ∀ cs, Reads enc P w base spare held e cs → ∃ a : α, cs.map (seeV w.heap.size) = (E.enc a).map some ∧ ok a) :
  Cells enc P w base spare held t [fun v => ∃ x, seeV w.heap.size v = some x ∧ ∃ L : List α, SlH (seeW w) x L ∧ ∀ a ∈ L, ok a] := by
 rintro cs ⟨fuel, x, h⟩
 obtain ⟨v, rfl⟩ : ∃ v, cs = [v] := by
  rcases Go.Deep.open_slice ht h with ⟨hc, _⟩ | ⟨a', len', cap', m, n, D, Pl, hcs, _⟩
  ·exact ⟨_, hc⟩
  ·exact ⟨_, hcs⟩
 refine ⟨rfl, fun j v' p hv hp => ?_⟩
 cases j with
 | zero => cases hv; cases hp; exact sl_any ht hk he ⟨fuel, x, h⟩
 | succ j => simp at hv
theorem slice_has {r : Reach} {t e : TypeId} (ht : P.underlying t = some (.slice e)) {v : Value} (h : Value.okWide P w r base t v) : ∀ a len cap, v = .slice (some a) len cap → a.spot = none ∧ a.block < w.heap.size := by
 rintro a len cap rfl
 simp only [Value.okWide, ht, Cell.okWide, Cell.ok, World.has] at h
 obtain ⟨_, _, _, hs, row, cells, hsh, _⟩ := h
 refine ⟨hs, ?_⟩
 unfold World.shape? at hsh
 cases hg : w.heap[a.block]? with
 | none => rw [hg] at hsh; cases hsh
 | some o => exact (Array.getElem?_eq_some_iff.1 hg).1
theorem wf_u8 {n : Int} (h : (Lit.int .u8 n).wf = true) : 0 ≤ n ∧ n ≤ 255 := by simpa [Lit.wf, IntKind.min, IntKind.max, IntKind.signed, IntKind.bits] using h
end
end Go.Proofs.Ytifemfnjoobiiaa.Run
