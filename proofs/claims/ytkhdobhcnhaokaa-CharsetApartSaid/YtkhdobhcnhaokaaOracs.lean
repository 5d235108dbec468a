/- What the functions of the chapter 'charset' answer, worked out over this session's own interpreter: each then is an answer that later runs may take as known. -/
import Derived.Test.YtkhdobhcnhaokaaWorks
import Derived.Test.YtkhdobhcnhaokaaRunS
namespace Go.Proofs.Ytkhdobhcnhaokaa.Run
open Go Go.RowKit
set_option linter.unusedVariables false
set_option linter.unusedSimpArgs false
set_option maxRecDepth 100000

def tbl : List Int := [32, 9670, 9618, 9225, 9228, 9229, 9226, 176, 177, 9252, 9227, 9496, 9488, 9484, 9492, 9532, 9146, 9147, 9472, 9148, 9149, 9500, 9508, 9524, 9516, 9474, 8804, 8805, 960, 8800, 163, 183]

def ofF (s r : Int) : Int := if s = 2 ∧ r = 35 then 163 else if s = 1 ∧ 95 ≤ r ∧ r ≤ 126 then tbl.getD (r - 95).toNat 0 else r

def noE : Orac := fun _ _ _ => none
theorem noE_ok : OracOK Try.prog idf noE := fun f args M r hq => by cases hq

def Ran (E : Orac) (f : FuncId) (args : List Value) (r : Value) : Prop := ∃ n, (callN funs E n (.func (.func f) #[] #[]) args ⟨0, 0, .e⟩).map (·.1) = some r

theorem of_ran1 (r : Int) (h1 : 95 ≤ r) (h2 : r ≤ 126) : Ran noE 9 [.int .i64 1, .int .i32 r] (.int .i32 (ofF 1 r)) := by
  have : r = 95 ∨ r = 96 ∨ r = 97 ∨ r = 98 ∨ r = 99 ∨ r = 100 ∨ r = 101 ∨ r = 102 ∨ r = 103 ∨ r = 104 ∨ r = 105 ∨ r = 106 ∨ r = 107 ∨ r = 108 ∨ r = 109 ∨ r = 110 ∨ r = 111 ∨ r = 112 ∨ r = 113 ∨ r = 114 ∨ r = 115 ∨ r = 116 ∨ r = 117 ∨ r = 118 ∨ r = 119 ∨ r = 120 ∨ r = 121 ∨ r = 122 ∨ r = 123 ∨ r = 124 ∨ r = 125 ∨ r = 126 := by omega
  rcases this with rfl | rfl | rfl | rfl | rfl | rfl | rfl | rfl | rfl | rfl | rfl | rfl | rfl | rfl | rfl | rfl | rfl | rfl | rfl | rfl | rfl | rfl | rfl | rfl | rfl | rfl | rfl | rfl | rfl | rfl | rfl | rfl <;> exact ⟨20, by kernel_rfl⟩

theorem ofR (s r : Int) : Ran noE 9 [.int .i64 s, .int .i32 r] (.int .i32 (ofF s r)) := by
  by_cases h2 : s = 2
  · subst h2
    by_cases hr : r = 35
    · subst hr; exact ⟨20, by kernel_rfl⟩
    · have e : ofF 2 r = r := by simp [ofF, hr]
      rw [e]
      exact ⟨20, ran_log [.calc 5, .is (.bool false)] (log := [binV .eql 0 [] (.int .i32 r) (.int .i32 35) = some (.bool false)]) (by kernel_rfl) (by simp [AllP, binV, intOp, isShift, hr])⟩
  · by_cases h1 : s = 1
    · subst h1
      by_cases hb : 95 ≤ r ∧ r ≤ 126
      · exact of_ran1 r hb.1 hb.2
      · have e : ofF 1 r = r := by simp [ofF, hb]
        rw [e]
        by_cases hc : 95 ≤ r
        · exact ⟨20, ran_log [.calc 10, .is (.bool true), .calc 3, .is (.bool false)] (log := [binV .leq 0 [] (.int .i32 r) (.int .i32 126) = some (.bool false), binV .geq 0 [] (.int .i32 r) (.int .i32 95) = some (.bool true)]) (by kernel_rfl) (by simp [AllP, binV, intOp, isShift]; omega)⟩
        · exact ⟨20, ran_log [.calc 10, .is (.bool false)] (log := [binV .geq 0 [] (.int .i32 r) (.int .i32 95) = some (.bool false)]) (by kernel_rfl) (by simp [AllP, binV, intOp, isShift]; omega)⟩
    · have e : ofF s r = r := by simp [ofF, h1, h2]
      rw [e]
      exact ⟨20, ran_log [.calc 2, .is (.bool false), .calc 4, .is (.bool false)] (log := [binV .eql 0 [] (.int .i64 s) (.int .i64 1) = some (.bool false), binV .eql 0 [] (.int .i64 s) (.int .i64 2) = some (.bool false)]) (by kernel_rfl) (by simp [AllP, binV, intOp, isShift, h1, h2])⟩

def setF (x : Int) : Int × Bool := if x = 66 then (0, true) else if x = 48 then (1, true) else if x = 65 then (2, true) else (0, false)

theorem setR (x : Int) : Ran noE 25 [.int .u8 x] (.tuple #[.int .i64 (setF x).1, .bool (setF x).2]) := by
  by_cases h1 : x = 66
  · subst h1; exact ⟨20, by kernel_rfl⟩
  by_cases h2 : x = 48
  · subst h2; exact ⟨20, by kernel_rfl⟩
  by_cases h3 : x = 65
  · subst h3; exact ⟨20, by kernel_rfl⟩
  have e : setF x = (0, false) := by simp [setF, h1, h2, h3]
  rw [e]
  exact ⟨20, ran_log [.calc 11, .is (.bool false), .calc 9, .is (.bool false), .calc 9, .is (.bool false)]
    (log := [binV .eql 0 [] (.int .u8 65) (.int .u8 x) = some (.bool false), binV .eql 0 [] (.int .u8 48) (.int .u8 x) = some (.bool false), binV .eql 0 [] (.int .u8 66) (.int .u8 x) = some (.bool false)]) (by kernel_rfl) (by simp [AllP, binV, intOp, isShift]; omega)⟩

/-- a choice -/
def ch (a b c d e f : Int) : Value := .agg #[.int .u8 a, .int .u8 b, .int .u8 c, .int .u8 d, .int .u8 e, .int .u8 f]

theorem lockR (a b c d e f x : Int) : Ran noE 16 [ch a b c d e f, .int .u8 x] (.tuple #[ch a b c d (if x = 14 then 1 else if x = 15 then 0 else e) f, .bool (decide (x = 14 ∨ x = 15))]) := by
  by_cases h1 : x = 14
  · subst h1; exact ⟨20, by kernel_rfl⟩
  by_cases h2 : x = 15
  · subst h2; exact ⟨20, by kernel_rfl⟩
  have e1 : decide (x = 14 ∨ x = 15) = false := by simp [h1, h2]
  rw [if_neg h1, if_neg h2, e1]
  exact ⟨20, ran_log [.calc 4, .is (.bool false), .calc 1, .is (.bool false)]
    (log := [binV .eql 0 [] (.int .u8 x) (.int .u8 15) = some (.bool false), binV .eql 0 [] (.int .u8 x) (.int .u8 14) = some (.bool false)]) (by kernel_rfl) (by simp [AllP, binV, intOp, isShift, h1, h2])⟩

theorem singleR (a b c d e f x : Int) : Ran noE 18 [ch a b c d e f, .int .i64 x] (.tuple #[ch a b c d e (if x = 2 then 2 else if x = 3 then 3 else f), .bool (decide (x = 2 ∨ x = 3))]) := by
  by_cases h1 : x = 2
  · subst h1; exact ⟨20, by kernel_rfl⟩
  by_cases h2 : x = 3
  · subst h2; exact ⟨20, by kernel_rfl⟩
  have e1 : decide (x = 2 ∨ x = 3) = false := by simp [h1, h2]
  rw [if_neg h1, if_neg h2, e1]
  exact ⟨20, ran_log [.calc 4, .is (.bool true), .calc 2, .is (.bool true)]
    (log := [binV .neq 0 [] (.int .i64 x) (.int .i64 3) = some (.bool true), binV .neq 0 [] (.int .i64 x) (.int .i64 2) = some (.bool true)]) (by kernel_rfl) (by simp [AllP, binV, intOp, isShift, h1, h2])⟩

def nowF (e f : Int) : Int := if f = 0 then e else f

theorem nowR (a b c d e f : Int) (he : e = 0 ∨ e = 1) (hf : f = 0 ∨ f = 2 ∨ f = 3) : Ran noE 22 [ch a b c d e f] (.int .i64 (nowF e f)) := by
  rcases hf with rfl | rfl | rfl
  · rcases he with rfl | rfl <;> exact ⟨20, by kernel_rfl⟩
  · exact ⟨20, by kernel_rfl⟩
  · exact ⟨20, by kernel_rfl⟩

/-- what is designated -/
def desF (a b c d e f p x : Int) : Value × Bool :=
  if (setF x).2 = true ∧ 0 ≤ p ∧ p ≤ 3 then (if p = 0 then ch (setF x).1 b c d e f else if p = 1 then ch a (setF x).1 c d e f else if p = 2 then ch a b (setF x).1 d e f else ch a b c (setF x).1 e f, true) else (ch a b c d e f, false)

theorem desR (a b c d e f p x : Int) : Ran noE 14 [ch a b c d e f, .int .i64 p, .int .u8 x] (.tuple #[(desF a b c d e f p x).1, .bool (desF a b c d e f p x).2]) := by
  by_cases h1 : x = 66
  · subst h1
    by_cases hp : 0 ≤ p ∧ p ≤ 3
    · have : p = 0 ∨ p = 1 ∨ p = 2 ∨ p = 3 := by omega
      rcases this with rfl | rfl | rfl | rfl <;> exact ⟨20, by kernel_rfl⟩
    · have e1 : desF a b c d e f p 66 = (ch a b c d e f, false) := by simp only [desF]; rw [if_neg (fun h => hp h.2)]
      rw [e1]
      by_cases h0 : p < 0
      · exact ⟨20, ran_log [.calc 29, .is (.bool true)] (log := [binV .lss 0 [] (.int .i64 p) (.int .i64 0) = some (.bool true)]) (by kernel_rfl) (by simp [AllP, binV, intOp, isShift]; omega)⟩
      · exact ⟨20, ran_log [.calc 29, .is (.bool false), .calc 3, .is (.bool true)] (log := [binV .geq 0 [] (.int .i64 p) (.int .i64 4) = some (.bool true), binV .lss 0 [] (.int .i64 p) (.int .i64 0) = some (.bool false)]) (by kernel_rfl) (by simp [AllP, binV, intOp, isShift]; omega)⟩
  by_cases h2 : x = 48
  · subst h2
    by_cases hp : 0 ≤ p ∧ p ≤ 3
    · have : p = 0 ∨ p = 1 ∨ p = 2 ∨ p = 3 := by omega
      rcases this with rfl | rfl | rfl | rfl <;> exact ⟨20, by kernel_rfl⟩
    · have e1 : desF a b c d e f p 48 = (ch a b c d e f, false) := by simp only [desF]; rw [if_neg (fun h => hp h.2)]
      rw [e1]
      by_cases h0 : p < 0
      · exact ⟨20, ran_log [.calc 39, .is (.bool true)] (log := [binV .lss 0 [] (.int .i64 p) (.int .i64 0) = some (.bool true)]) (by kernel_rfl) (by simp [AllP, binV, intOp, isShift]; omega)⟩
      · exact ⟨20, ran_log [.calc 39, .is (.bool false), .calc 3, .is (.bool true)] (log := [binV .geq 0 [] (.int .i64 p) (.int .i64 4) = some (.bool true), binV .lss 0 [] (.int .i64 p) (.int .i64 0) = some (.bool false)]) (by kernel_rfl) (by simp [AllP, binV, intOp, isShift]; omega)⟩
  by_cases h3 : x = 65
  · subst h3
    by_cases hp : 0 ≤ p ∧ p ≤ 3
    · have : p = 0 ∨ p = 1 ∨ p = 2 ∨ p = 3 := by omega
      rcases this with rfl | rfl | rfl | rfl <;> exact ⟨20, by kernel_rfl⟩
    · have e1 : desF a b c d e f p 65 = (ch a b c d e f, false) := by simp only [desF]; rw [if_neg (fun h => hp h.2)]
      rw [e1]
      by_cases h0 : p < 0
      · exact ⟨20, ran_log [.calc 49, .is (.bool true)] (log := [binV .lss 0 [] (.int .i64 p) (.int .i64 0) = some (.bool true)]) (by kernel_rfl) (by simp [AllP, binV, intOp, isShift]; omega)⟩
      · exact ⟨20, ran_log [.calc 49, .is (.bool false), .calc 3, .is (.bool true)] (log := [binV .geq 0 [] (.int .i64 p) (.int .i64 4) = some (.bool true), binV .lss 0 [] (.int .i64 p) (.int .i64 0) = some (.bool false)]) (by kernel_rfl) (by simp [AllP, binV, intOp, isShift]; omega)⟩
  have e1 : desF a b c d e f p x = (ch a b c d e f, false) := by simp [desF, setF, h1, h2, h3]
  rw [e1]
  exact ⟨20, ran_log [.calc 16, .is (.bool false), .calc 9, .is (.bool false), .calc 9, .is (.bool false)]
    (log := [binV .eql 0 [] (.int .u8 65) (.int .u8 x) = some (.bool false), binV .eql 0 [] (.int .u8 48) (.int .u8 x) = some (.bool false), binV .eql 0 [] (.int .u8 66) (.int .u8 x) = some (.bool false)]) (by kernel_rfl) (by simp [AllP, binV, intOp, isShift]; omega)⟩

theorem known_of {E : Orac} (hE : OracOK Try.prog idf E) {f : FuncId} {args : List Value} {r : Value} (h : Ran E f args r) (ha : args.all okC = true) (hr : okT r = true) (φ : Loc) (w : World) (args' : Array Value) (hl : LRel φ args args'.toList) :
    Calls Try.prog f args' w fun e w' => e = .returned r ∧ Below w.heap.size w w' := by
  obtain ⟨n, h⟩ := h
  obtain ⟨⟨r', M'⟩, h1, h2⟩ := Option.map_eq_some_iff.1 h
  cases h2
  exact run_known (by kernel_rfl) idf_ok funs_ok hE ha hr h1 φ w args' hl

def ofE : Orac := fun f args _ => if f = 9 then (match args with | [.int .i64 s, .int .i32 r] => some (.int .i32 (ofF s r)) | _ => none) else none

theorem ofE_ok : OracOK Try.prog idf ofE := by
  intro f args M r h
  unfold ofE at h
  split at h
  · rename_i hf
    subst hf
    split at h
    · cases h
      exact ⟨rfl, ⟨Try.f9, _, Try.func9, rfl, by kernel_rfl⟩, fun φ w args' _ hl => known_of noE_ok (ofR _ _) rfl rfl φ w args' hl⟩
    · cases h
  · cases h

theorem mapR (a b c d e f r : Int) (ha : 0 ≤ a ∧ a ≤ 2) (hb : 0 ≤ b ∧ b ≤ 2) (hc : 0 ≤ c ∧ c ≤ 2) (hd : 0 ≤ d ∧ d ≤ 2) (he : e = 0 ∨ e = 1) (hf : f = 0 ∨ f = 2 ∨ f = 3) :
    Ran ofE 13 [ch a b c d e f, .int .i32 r] (.tuple #[ch a b c d e 0, .int .i32 (ofF (if f = 2 then c else if f = 3 then d else if e = 0 then a else b) r)]) := by
  have w : ∀ x : Int, 0 ≤ x ∧ x ≤ 2 → IntKind.i64.wrap x = x := by
    intro x hx
    have : x = 0 ∨ x = 1 ∨ x = 2 := by omega
    rcases this with rfl | rfl | rfl <;> rfl
  rcases hf with rfl | rfl | rfl
  · rcases he with rfl | rfl
    · have := w a ha
      rw [show (if (0 : Int) = 2 then c else if (0 : Int) = 3 then d else if (0 : Int) = 0 then a else b) = IntKind.i64.wrap a by rw [this]; simp]
      exact ⟨20, by kernel_rfl⟩
    · have := w b hb
      rw [show (if (0 : Int) = 2 then c else if (0 : Int) = 3 then d else if (1 : Int) = 0 then a else b) = IntKind.i64.wrap b by rw [this]; simp]
      exact ⟨20, by kernel_rfl⟩
  · have := w c hc
    rw [show (if (2 : Int) = 2 then c else if (2 : Int) = 3 then d else if e = 0 then a else b) = IntKind.i64.wrap c by rw [this]; simp]
    exact ⟨20, by kernel_rfl⟩
  · have := w d hd
    rw [show (if (3 : Int) = 2 then c else if (3 : Int) = 3 then d else if e = 0 then a else b) = IntKind.i64.wrap d by rw [this]; simp]
    exact ⟨20, by kernel_rfl⟩

theorem ne_zero {a b c d e f : Int} (h : ¬ (a = 0 ∧ b = 0 ∧ c = 0 ∧ d = 0 ∧ e = 0 ∧ f = 0)) : binV .eql 2 [0, 0, 0, 0, 0, 0] (ch a b c d e f) (ch 0 0 0 0 0 0) = some (.bool false) := by
  have : eqV true [0, 0, 0, 0, 0, 0] (ch a b c d e f) (ch 0 0 0 0 0 0) = some false := by
    simp only [eqV, ch, eqCells, cellEq]
    by_cases h1 : a = 0
    · by_cases h2 : b = 0
      · by_cases h3 : c = 0
        · by_cases h4 : d = 0
          · by_cases h5 : e = 0
            · by_cases h6 : f = 0
              · exact absurd ⟨h1, h2, h3, h4, h5, h6⟩ h
              · simp [h1, h2, h3, h4, h5, h6]
            · simp [h1, h2, h3, h4, h5]
          · simp [h1, h2, h3, h4]
        · simp [h1, h2, h3]
      · simp [h1, h2]
    · simp [h1]
  simp only [ch] at this ⊢
  simp [binV, this, negIf]

theorem setsR (a b c d e f : Int) (ha : 0 ≤ a ∧ a ≤ 2) (hb : 0 ≤ b ∧ b ≤ 2) (hc : 0 ≤ c ∧ c ≤ 2) (hd : 0 ≤ d ∧ d ≤ 2) : Ran noE 21 [ch a b c d e f] (.agg #[.int .i64 a, .int .i64 b, .int .i64 c, .int .i64 d]) := by
  have w : ∀ x : Int, 0 ≤ x ∧ x ≤ 2 → IntKind.i64.wrap x = x := by
    intro x hx
    have : x = 0 ∨ x = 1 ∨ x = 2 := by omega
    rcases this with rfl | rfl | rfl <;> rfl
  by_cases h : a = 0 ∧ b = 0 ∧ c = 0 ∧ d = 0 ∧ e = 0 ∧ f = 0
  · obtain ⟨rfl, rfl, rfl, rfl, rfl, rfl⟩ := h
    exact ⟨20, by kernel_rfl⟩
  · have e1 : (Value.agg #[.int .i64 a, .int .i64 b, .int .i64 c, .int .i64 d]) = .agg #[.int .i64 (IntKind.i64.wrap a), .int .i64 (IntKind.i64.wrap b), .int .i64 (IntKind.i64.wrap c), .int .i64 (IntKind.i64.wrap d)] := by rw [w a ha, w b hb, w c hc, w d hd]
    rw [e1]
    exact ⟨20, ran_log [.calc 4, .is (.bool false)] (log := [binV .eql 2 [0, 0, 0, 0, 0, 0] (ch a b c d e f) (ch 0 0 0 0 0 0) = some (.bool false)]) (by kernel_rfl) ⟨ne_zero h, trivial⟩⟩
end Go.Proofs.Ytkhdobhcnhaokaa.Run
