/- An argument of whatever make (numbers, bools, strings, structs, arrays, slices of these) as the kind that the printed functions speak of. A text of this session's own. -/
import Derived.Test.YtkhdobhcnhaokaaWWords
import Derived.Deep.Slices
import Derived.Deep.Fields
import Derived.OpenShut
namespace Go.Proofs.Ytkhdobhcnhaokaa.Opens
open Go.RowKit Go.ChangeShapes Go.WideShapes Go.Deep Go.Proofs.YtkhdobhcnhaokaaW.PrintWords

/-- What reads as type t is of kind d, and ok. -/
def Opens {α : Type} (P : Program) (t : TypeId) (d : Kd α) (ok : α → Prop) : Prop :=
  ∀ {H : Type} {enc : TypeId × Value → H} {w : World} {base : Nat} {spare : Nat → Bool} {held : Bool} {fuel : Nat} {cs : List Value} {x : DataW H × List MemPlace},
    DataW.trod enc P w base spare held fuel t cs = some x → ∃ a, d.K w a cs ∧ ok a
/-- The same of the cells from o on, out of fields (types, places). -/
def OpensF {α : Type} (P : Program) (o tot : Nat) (d : Kd α) (ok : α → Prop) (fs : List (TypeId × Nat)) : Prop :=
  ∀ {H : Type} {enc : TypeId × Value → H} {w : World} {base : Nat} {spare : Nat → Bool} {held : Bool} {n : Nat} {cs : List Value}, cs.length = tot →
    (∀ f ∈ fs, ∃ y, DataW.trod enc P w base spare held n f.1 ((cs.drop f.2).take (P.cellsOf f.1)) = some y) → ∃ a, d.K w a (cs.drop o) ∧ ok a

section
variable {α β : Type} {P : Program} {t e : TypeId} {d : Kd α} {ok : α → Prop}
theorem opens_int {k : IntKind} (ht : P.underlying t = some (.int k)) : Opens P t (Kd.int k) (fun n => (Lit.int k n).wf = true) := fun h => by
  obtain ⟨n, rfl, _, hw⟩ := DataW.trod_int ht h
  exact ⟨n, rfl, hw⟩
theorem opens_bool (ht : P.underlying t = some .bool) : Opens P t Kd.bool (fun _ => True) := fun h => by
  obtain ⟨n, rfl, _⟩ := DataW.trod_bool ht h
  exact ⟨n, rfl, trivial⟩
theorem opens_string (ht : P.underlying t = some .string) : Opens P t Kd.string (fun s => s.size ≤ maxLen) := fun h => by
  obtain ⟨n, rfl, _, hw⟩ := DataW.trod_string ht h
  exact ⟨n, rfl, hw⟩
theorem opens_iso (h : Opens P t d ok) (f : β → α) (g : α → β) (hg : ∀ a, f (g a) = a) : Opens P t (Kd.iso d f) (fun b => ok (f b)) := fun hx => by
  obtain ⟨a, hk, ho⟩ := h hx
  exact ⟨g a, by show d.K _ (f (g a)) _; rw [hg]; exact hk, by show ok (f (g a)); rw [hg]; exact ho⟩
theorem opensF_last {o tot : Nat} (h : Opens P t d ok) (hs : o + P.cellsOf t = tot) : OpensF P o tot d ok [(t, o)] := fun hl hf => by
  obtain ⟨y, hy⟩ := hf _ (List.mem_singleton.2 rfl)
  have h1 := h hy
  rwa [List.take_of_length_le (by simp only [List.length_drop]; omega)] at h1
theorem opensF_cons {d2 : Kd β} {ok2 : β → Prop} {o o2 tot : Nat} {fs : List (TypeId × Nat)} (h : Opens P t d ok) (hs : o + P.cellsOf t = o2) (h2 : OpensF P o2 tot d2 ok2 fs) :
    OpensF P o tot (Kd.pair d d2) (fun p => ok p.1 ∧ ok2 p.2) ((t, o) :: fs) := fun {H enc w base spare held n cs} hl hf => by
  obtain ⟨y, hy⟩ := hf _ List.mem_cons_self
  obtain ⟨a, ka, oa⟩ := h hy
  obtain ⟨b, kb, ob⟩ := h2 hl (fun f hm => hf f (List.mem_cons_of_mem _ hm))
  refine ⟨(a, b), ⟨(cs.drop o).take (P.cellsOf t), cs.drop o2, ?_, ka, kb⟩, oa, ob⟩
  rw [← hs, ← List.drop_drop]
  exact (List.take_append_drop _ _).symm
theorem opens_struct {fs : Array Field} {L : List (TypeId × Nat)} {tot : Nat} (ht : P.underlying t = some (.struct fs)) (hL : (fs.toList.map fun f => (f.type, f.offset)) = L) (hc : P.cellsOf t = tot) (hF : OpensF P 0 tot d ok L) : Opens P t d ok := fun h => by
  obtain ⟨xs, n, _, _, hl, hxl, hf⟩ := DataW.trod_struct ht h
  subst hL
  have := hF (hl.trans hc) (n := n) (fun f hm => by
    obtain ⟨g, hg, rfl⟩ := List.mem_map.1 hm
    obtain ⟨i, hi, hgi⟩ := List.getElem_of_mem hg
    have h1 := hf i g (by rw [← hgi]; simp)
    have h2 : i < xs.length := by rw [hxl]; simpa using hi
    exact ⟨_, h1.trans (List.getElem?_eq_getElem h2)⟩)
  simpa using this
theorem opens_array {m sz : Nat} {L : List (TypeId × Nat)} {tot : Nat} (ht : P.underlying t = some (.array m e)) (hs : P.cellsOf e = sz) (hL : ((List.range m).map fun i => (e, i * sz)) = L) (hc : P.cellsOf t = tot) (hF : OpensF P 0 tot d ok L) : Opens P t d ok := fun h => by
  obtain ⟨xs, n, _, _, hl, hxl, hf⟩ := DataW.trod_array ht h
  subst hL
  subst hs
  have := hF (hl.trans hc) (n := n) (fun f hm => by
    obtain ⟨i, hi, rfl⟩ := List.mem_map.1 hm
    have hi' : i < m := by simpa using hi
    have h1 := hf i hi'
    have h2 : i < xs.length := by omega
    exact ⟨_, h1.trans (List.getElem?_eq_getElem h2)⟩)
  simpa using this
/-- A slice whose elements are told. -/
theorem opens_row (ht : P.underlying t = some (.slice e)) (he : Opens P e d ok) (hs : P.cellsOf e = d.sz) {H : Type} {enc : TypeId × Value → H} {w : World} {base : Nat} {spare : Nat → Bool} {held : Bool} {fuel : Nat} {cs : List Value} {x : DataW H × List MemPlace}
    (h : DataW.trod enc P w base spare held fuel t cs = some x) : ∃ A c, ∃ l : List α, cs = [.slice A l.length c] ∧ l.length ≤ c ∧ d.C w A l.length l ∧ l.length ≤ maxLen ∧ ∀ z ∈ l, ok z := by
  rcases open_slice ht h with ⟨rfl, _⟩ | ⟨a, len, cap, m, n, D, Pl, rfl, hb, hl, hm, hmm, _, hi⟩
  · exact ⟨none, 0, [], rfl, Nat.le_refl _, ⟨rfl, by simp, fun h => absurd h (by simp)⟩, by simp, by simp⟩
  · have hlm : len ≤ m := by rw [hmm]; split <;> omega
    have hall : ∀ i : Fin len, ∃ z : α, ∃ cs', w.cells? base (a.add (i * P.cellsOf e)) (P.cellsOf e) = some cs' ∧ d.K w z cs' ∧ ok z := fun i => by
      obtain ⟨cs', h1, h2⟩ := hi i (by omega)
      obtain ⟨z, h3, h4⟩ := he h2
      exact ⟨z, cs', h1, h3, h4⟩
    obtain ⟨f, hf⟩ := Classical.axiomOfChoice hall
    refine ⟨some a, cap, List.ofFn f, by rw [List.length_ofFn], by rw [List.length_ofFn]; exact hl, ⟨rfl, ?_, fun _ => ⟨a, rfl, fun j p hj => ?_⟩⟩, by rw [List.length_ofFn]; omega, fun z hz => ?_⟩
    · rw [List.length_ofFn]
      have : maxLen ≤ 9223372036854775807 := by decide
      omega
    · have hjl : j < len := by
        have := (List.getElem?_eq_some_iff.1 hj).1
        rwa [List.length_ofFn] at this
      have hp : f ⟨j, hjl⟩ = p := by
        rw [List.getElem?_ofFn, dif_pos hjl] at hj
        exact Option.some.inj hj
      obtain ⟨cs', h1, h2, _⟩ := hf ⟨j, hjl⟩
      obtain ⟨_, hcl, hat⟩ := World.cells?_some h1
      rw [hp] at h2
      refine ⟨cs', hcl.trans hs, h2, fun i u hu => ?_⟩
      have hil : i < cs'.length := (List.getElem?_eq_some_iff.1 hu).1
      have := hat i (by omega)
      rw [hu] at this
      rw [← this, Go.Deep.add_add, ← hs]
    · obtain ⟨i, hi⟩ := List.mem_ofFn.1 hz
      obtain ⟨_, _, _, ho⟩ := hf i
      rw [← hi]
      exact ho
theorem opens_slice {e2 : Nat} (ht : P.underlying t = some (.slice e)) (he : Opens P e d ok) (hs : P.cellsOf e = d.sz) : Opens P t (Kd.slice e2 d) (fun l => l.length ≤ maxLen ∧ ∀ z ∈ l, ok z) := fun h => by
  obtain ⟨A, c, l, rfl, h1, h2, h3, h4⟩ := opens_row ht he hs h
  exact ⟨l, ⟨A, c, rfl, h1, h2⟩, h3, h4⟩
end
end Go.Proofs.Ytkhdobhcnhaokaa.Opens
