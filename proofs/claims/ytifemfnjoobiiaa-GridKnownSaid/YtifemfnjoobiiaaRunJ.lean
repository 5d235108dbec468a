/- Each operation that is no call does what this session's small operation says. No statement of the program's is proved here. -/
import Derived.Test.YtifemfnjoobiiaaRunI
namespace Go.Proofs.Ytifemfnjoobiiaa.Run
open Go Go.RowKit
set_option linter.unusedVariables false
set_option linter.unusedSimpArgs false
section
variable {P : Program} {idf : FuncId → Bool}
theorem ev_rel {φ : Loc} {t : List Value} {a : Act} (ht : LRel φ t a.tmps.toList) {x : Operand} (ho : okO x = true) : VRel φ (ev t x) (a.eval x) := by
 cases x with
 | tmp i =>
  have := ht.getD i
  have e : a.tmps.toList.getD i Go.undef = a.tmps.getD i Go.undef := by simp [List.getD]
  simpa [ev, Act.eval, e] using this
 | const v => exact VRel.okC ho
 | global g => simp [okO] at ho
 | func f => exact .func f #[] #[] #[] #[] rfl rfl (fun i x y h => by simp at h) (fun i x y h => by simp at h)
theorem evs_rel {φ : Loc} {t : List Value} {a : Act} : ∀ {xs : List Operand}, (∀ x ∈ xs, VRel φ (ev t x) (a.eval x)) → LRel φ (xs.map (ev t)) (xs.map a.eval)
 | [], _ => .nil
 | x :: xs, h => .cons (h x (by simp)) (evs_rel fun y hy => h y (by simp [hy]))
theorem opt_rel {φ : Loc} {t : List Value} {a : Act} {x : Option Operand} (ho : ∀ y, x = some y → VRel φ (ev t y) (a.eval y)) : ORl φ (x.map (ev t)) (x.map a.eval) := by
 cases x with
 | none => exact .none
 | some y => exact .some (ho y rfl)
variable (P idf)
def Does (φ : Loc) (M : Mem) (w : World) (s : Sem Next) (v : Value) (M' : Mem) : Prop :=
 ∃ φ' v' w' nx, s.run P w = .ok nx w' ∧ (nx = .value v' ∨ (nx = .skip ∧ v' = undef)) ∧ VRel φ' v v' ∧ Rep P idf φ' M' w' ∧ Stp φ M w φ' M' w'
variable {P idf}
theorem Gives.does {s : Sem Value} {φ : Loc} {M M' : Mem} {w : World} {v : Value} (g : Gives P idf s φ M w v M') : Does P idf φ M w (do pure (Next.value (← s))) v M' := by
 obtain ⟨φ', v', w', h1, h2, h3, h4⟩ := g
 exact ⟨φ', v', w', .value v', by simp [h1], .inl rfl, h2, h3, h4⟩
theorem Does.value {φ : Loc} {M : Mem} {w : World} {v v' : Value} (h : Rep P idf φ M w) (hv : VRel φ v v') : Does P idf φ M w (pure (Next.value v')) v M := ⟨φ, v', w, .value v', rfl, .inl rfl, hv, h, Stp.refl _ _ _⟩
theorem Does.unit {s : Sem Unit} {φ : Loc} {M M' : Mem} {w : World} (g : ∃ w', s.run P w = .ok () w' ∧ Rep P idf φ M' w' ∧ Stp φ M w φ M' w') : Does P idf φ M w (do s; pure .skip) undef M' := by
 obtain ⟨w', h1, h3, h4⟩ := g
 exact ⟨φ, undef, w', .skip, by simp [h1], .inr ⟨rfl, rfl⟩, VRel.undef, h3, h4⟩
theorem map_some {α β : Type} {f : α → β} {x : Option α} {y : β} (h : x.map f = some y) : ∃ a, x = some a ∧ f a = y := by simpa using h
set_option maxHeartbeats 4000000 in
theorem op_sound {φ : Loc} {M M' : Mem} {w : World} (h : Rep P idf φ M w) {t : List Value} {a : Act} {o : Oper} (hv : ∀ x ∈ o.op.operands.toList, VRel φ (ev t x) (a.eval x)) {m : MOp} (hc : compPlain P o.op = some m) (hok : o.op.operands.toList.all okO = true) {v : Value}
  (hs : opSem m t M = some (v, M')) : Does P idf φ M w (execOp a.eval o) v M' := by
 unfold compPlain at hc
 unfold execOp
 cases hop : o.op with
 | move x =>
  simp only [hop, Op.operands] at hc hok hv ⊢
  cases hc
  simp only [opSem, Option.some.injEq, Prod.mk.injEq] at hs
  obtain ⟨rfl, rfl⟩ := hs
  exact Does.value h (hv x (by simp))
 | assign x =>
  simp only [hop, Op.operands] at hc hok hv ⊢
  cases hc
  simp only [opSem, Option.some.injEq, Prod.mk.injEq] at hs
  obtain ⟨rfl, rfl⟩ := hs
  exact Does.value h (hv x (by simp))
 | pick c x y =>
  simp only [hop, Op.operands] at hc hok hv ⊢
  cases hc
  have hcr := hv c (by simp)
  simp only [opSem] at hs
  split at hs
  ·rename_i b hb
   rw [hb] at hcr
   cases hs
   generalize a.eval c = cv at hcr ⊢
   cases hcr
   refine ⟨φ, if b then a.eval x else a.eval y, w, .value _, by simp [asBool], .inl rfl, ?_, h, Stp.refl _ _ _⟩
   cases b
   ·exact hv y (by simp)
   ·exact hv x (by simp)
  ·cases hs
 | alloc e =>
  simp only [hop, Op.operands] at hc hok hv ⊢
  obtain ⟨z, hz, rfl⟩ := map_some hc
  simp only [opSem] at hs
  split at hs
  ·cases hs; exact (g_alloc h hz).does
  ·cases hs
 | box e x =>
  simp only [hop, Op.operands] at hc hok hv ⊢
  cases hc
  simp only [opSem] at hs
  split at hs
  ·rename_i hn; cases hs; exact (g_box h (hv x (by simp)) hn).does
  ·cases hs
 | build ty ps =>
  simp only [hop] at hc hok hv ⊢
  have hall : ∀ p ∈ ps.toList, VRel φ (ev t p.2) (a.eval p.2) := by
   intro p hp
   exact hv p.2 (by simp [Op.operands]; exact ⟨p.1, by simpa using hp⟩)
  simp only [Option.bind_eq_some_iff] at hc
  obtain ⟨z, hz, hc⟩ := hc
  split at hc
  ·rename_i fs hu
   split at hc
   ·rename_i hall2
    obtain ⟨L, hL, rfl⟩ := map_some hc
    simp only [opSem] at hs
    obtain ⟨c, hf, he⟩ := map_some hs
    cases he
    exact (g_build h hz (.inl ⟨fs, hu, hall2, hL⟩) hall hf).does
   ·cases hc
  ·rename_i n e hu
   obtain ⟨s, hsz, rfl⟩ := map_some hc
   simp only [opSem] at hs
   obtain ⟨c, hf, he⟩ := map_some hs
   cases he
   exact (g_build h hz (.inr ⟨n, e, s, hu, hsz, rfl⟩) hall hf).does
  ·cases hc
 | buildSlice ty len ps =>
  simp only [hop] at hc hok hv ⊢
  have hall : ∀ p ∈ ps.toList, VRel φ (ev t p.2) (a.eval p.2) := by
   intro p hp
   exact hv p.2 (by simp [Op.operands]; exact ⟨p.1, by simpa using hp⟩)
  split at hc
  ·rename_i e hu
   simp only [Option.bind_eq_some_iff] at hc
   obtain ⟨⟨s, z⟩, hz, hc⟩ := hc
   split at hc
   ·rename_i hlen
    cases hc
    simp only [opSem] at hs
    obtain ⟨c, hf, he⟩ := map_some hs
    cases he
    exact (g_lit h hu hz hlen hall hf).does
   ·cases hc
  ·cases hc
 | load ty x =>
  simp only [hop, Op.operands] at hc hok hv ⊢
  obtain ⟨n, hn, rfl⟩ := map_some hc
  have hx := hv x (by simp)
  simp only [opSem] at hs
  split at hs
  ·rename_i b off hb
   rw [hb] at hx
   cases n with
   | some n =>
    obtain ⟨c, hf, he⟩ := map_some hs
    cases he
    exact (g_load h hn hx (by simp [hf])).does
   | none =>
    obtain ⟨c, hf, he⟩ := map_some hs
    cases he
    exact (g_load h hn hx (by simpa using hf)).does
  ·cases hs
 | store ty x y =>
  simp only [hop, Op.operands] at hc hok hv ⊢
  obtain ⟨n, hn, rfl⟩ := map_some hc
  have hx := hv x (by simp)
  have hy := hv y (by simp)
  simp only [opSem] at hs
  split at hs
  ·rename_i b off hb
   rw [hb] at hx
   split at hs
   ·rename_i hcond
    obtain ⟨M2, hst, he⟩ := map_some hs
    cases he
    exact Does.unit (g_store h hn hx hy hcond.1 hcond.2 hst)
   ·cases hs
  ·cases hs
 | nilCheck x =>
  simp only [hop, Op.operands] at hc hok hv ⊢
  cases hc
  have hx := hv x (by simp)
  simp only [opSem] at hs
  split at hs
  ·rename_i ad hb
   rw [hb] at hx
   cases hs
   generalize a.eval x = xv at hx ⊢
   cases hx with
   | ptr b off c K hbb => exact Does.value h (.ptr _ _ _ _ hbb)
  ·rename_i f p q hb
   rw [hb] at hx
   cases hs
   generalize a.eval x = xv at hx ⊢
   cases hx with
   | func _ _ a' _ b' h1 h2 h3 h4 => exact Does.value h (.func _ _ _ _ _ h1 h2 h3 h4)
  ·rename_i f p q hb
   rw [hb] at hx
   cases hs
   generalize a.eval x = xv at hx ⊢
   cases hx with
   | yield _ l' K h1 => exact Does.value h (.yield _ _ _ h1)
  ·cases hs
 | binOp op ty x y ty2 =>
  simp only [hop, Op.operands] at hc hok hv ⊢
  obtain ⟨⟨kd, sg⟩, hk, rfl⟩ := map_some hc
  simp only [opSem] at hs
  obtain ⟨r, hr, he⟩ := map_some hs
  cases he
  exact (g_bin h hk (hv x (by simp)) (hv y (by simp)) hr).does
 | unOp op ty x =>
  simp only [hop, Op.operands] at hc hok hv ⊢
  cases hc
  simp only [opSem] at hs
  obtain ⟨r, hr, he⟩ := map_some hs
  cases he
  exact (g_un h (hv x (by simp)) hr).does
 | convert s d x =>
  simp only [hop, Op.operands] at hc hok hv ⊢
  have hx := hv x (by simp)
  split at hc
  ·rename_i ks k hu1 hu2
   cases hc
   simp only [opSem] at hs
   split at hs
   ·rename_i j n hb; rw [hb] at hx; cases hs; exact (g_convI h hu1 hu2 hx).does
   ·cases hs
  ·rename_i hu1 hu2
   cases hc
   simp only [opSem] at hs
   split at hs
   ·rename_i n hb; rw [hb] at hx; cases hs; exact (g_convS h hu1 hu2 hx).does
   ·cases hs
  ·rename_i e hu1 hu2
   split at hc
   ·cases hc
   ·rename_i hz
    cases hc
    simp only [Bool.or_eq_true, beq_iff_eq, not_or] at hz
    obtain ⟨n, hn⟩ : ∃ n, szOf P e = some n := Option.ne_none_iff_exists'.1 hz.2
    simp only [opSem] at hs
    split at hs
    ·rename_i b off hb
     rw [hb] at hx
     split at hs
     ·rename_i c ty wr hg
      split at hs
      ·rename_i hl
       cases hs
       exact (g_ptrU h hu1 hu2 hn (by rintro rfl; exact hz.1 hn) hx hg hl).does
      ·cases hs
     ·cases hs
    ·cases hs
  ·rename_i u hu1 hu2
   simp only [Option.bind_eq_some_iff] at hc
   obtain ⟨n, hn, hc⟩ := hc
   split at hc
   ·cases hc
   ·rename_i h0
    cases hc
    simp only [opSem] at hs
    split at hs
    ·rename_i b hb
     rw [hb] at hx
     split at hs
     ·rename_i c ty wr hg
      split at hs
      ·rename_i hl
       obtain ⟨rfl, hl⟩ := hl
       cases hs
       exact (g_castP h hu1 hu2 hn h0 hx hg hl).does
      ·cases hs
     ·cases hs
    ·cases hs
  ·cases hc
 | makeInterface ty x =>
  simp only [hop, Op.operands] at hc hok hv ⊢
  have hx := hv x (by simp)
  split at hc
  ·cases hc
  ·rename_i d hne hu
   cases hc
   simp only [opSem] at hs
   cases hs
   refine (Gives.same h (v' := .iface ty (a.eval x)) ?_ (.iface _ _ _ hx)).does
   unfold Instr.makeInterface
   rw [Sem.run_bind, run_underlying hu w]
   cases d <;> first | rfl | exact (hne _ rfl).elim
  ·cases hc
 | makeFunc fn first cap =>
  simp only [hop, Op.operands] at hc hok hv ⊢
  cases fn <;> simp only at hc <;> try (cases hc; done)
  rename_i f
  cases hc
  simp only [opSem] at hs
  cases hs
  have h1 := evs_rel (φ := φ) (t := t) (a := a) (xs := first.toList) (fun x hx => hv x (by simp; exact .inl (by simpa using hx)))
  have h2 := evs_rel (φ := φ) (t := t) (a := a) (xs := cap.toList) (fun x hx => hv x (by simp; exact .inr (by simpa using hx)))
  refine (Gives.same h (v' := .func (.func f) (first.map a.eval) (cap.map a.eval)) rfl (.func f _ _ _ _ (by simp) (by simp) ?_ ?_)).does
  ·intro i x y hx hy
   exact h1.idx i x y (by simpa using hx) (by simpa using hy)
  ·intro i x y hx hy
   exact h2.idx i x y (by simpa using hx) (by simpa using hy)
 | makeMap ty r =>
  have key : ∀ s : Sem Value, s.run P w = .ok (.map (some w.heap.size)) (w.alloc (.map #[] 0)) → Gives P idf s φ M w (.map (some M.size)) (M.push (.map [] 0)) := by
   intro s hr
   obtain ⟨h1, h2⟩ := h.alloc (o := .map [] 0) (o' := .map #[] 0) (K := 0) (.map _ _ _ .nil)
   exact ⟨_, _, _, hr, .map _ _ 0 (by simp [Loc.add]), h1, h2⟩
  simp only [hop] at hc hok hv ⊢
  cases r with
  | none =>
   simp only at hc
   cases hc
   simp only [opSem] at hs
   cases hs
   exact (key _ (by simp [Instr.makeMap])).does
  | some x =>
   cases x with
   | const cv =>
    cases cv <;> simp only at hc <;> try (cases hc; done)
    split at hc
    ·rename_i kt e hu
     cases hc
     simp only [opSem] at hs
     cases hs
     exact (key _ (by simp [Instr.makeMap, Act.eval, run_underlying hu, asInt, asIntOf])).does
    ·cases hc
   | _ => cases hc
 | makeSlice ty l c =>
  simp only [hop, Op.operands] at hc hok hv ⊢
  have hl := hv l (by simp)
  have hcc := hv c (by simp)
  split at hc
  ·rename_i e hu
   simp only [Option.bind_eq_some_iff] at hc
   obtain ⟨⟨s, z⟩, hz, hc⟩ := hc
   obtain ⟨b, hb, rfl⟩ := map_some hc
   simp only [opSem] at hs
   split at hs
   ·rename_i kl lv kc cv hbl hbc
    rw [hbl] at hl
    rw [hbc] at hcc
    split at hs
    ·rename_i hcond
     cases hs
     generalize a.eval l = lv' at hl ⊢
     generalize a.eval c = cv' at hcc ⊢
     cases hl
     cases hcc
     exact (g_mkSlice h hu hz hb hcond.1 hcond.2.1 hcond.2.2.1 hcond.2.2.2).does
    ·cases hs
   ·cases hs
  ·cases hc
 | slice ty x lo hi mx =>
  simp only [hop, Op.operands] at hc hok hv ⊢
  have hx := hv x (by simp)
  have hlo := opt_rel (φ := φ) (t := t) (a := a) (x := lo) (fun y hy => hv y (by subst hy; simp))
  have hhi := opt_rel (φ := φ) (t := t) (a := a) (x := hi) (fun y hy => hv y (by subst hy; simp))
  have hmx := opt_rel (φ := φ) (t := t) (a := a) (x := mx) (fun y hy => hv y (by subst hy; simp))
  split at hc
  ·rename_i hu
   cases mx with
   | some _ => cases hc
   | none =>
    cases hc
    simp only [opSem] at hs
    split at hs
    ·rename_i sb hb
     rw [hb] at hx
     obtain ⟨⟨l, hh, m⟩, hbd, he⟩ := map_some hs
     cases he
     exact (g_sliceS h hu hx hlo hhi hbd).does
    ·cases hs
  ·rename_i e hu
   simp only [Option.bind_eq_some_iff] at hc
   obtain ⟨s, hsz, hc⟩ := hc
   split at hc
   ·cases hc
   ·rename_i h0
    cases hc
    simp only [opSem] at hs
    split at hs
    ·rename_i ad len cap hb
     rw [hb] at hx
     simp only [Option.bind_eq_some_iff] at hs
     obtain ⟨⟨l, hh, m⟩, hbd, hs⟩ := hs
     obtain ⟨v2, k1, he⟩ := map_some hs
     cases he
     have hmxs : (mx.map (ev t)).isSome = mx.isSome := by cases mx <;> rfl
     rw [← hmxs] at k1
     exact (g_sliceL h hu hsz h0 hx hlo hhi hmx hbd k1).does
    ·cases hs
  ·rename_i n e hu
   obtain ⟨s, hsz, rfl⟩ := map_some hc
   simp only [opSem] at hs
   split at hs
   ·rename_i b off hb
    rw [hb] at hx
    obtain ⟨⟨l, hh, m⟩, hbd, he⟩ := map_some hs
    cases he
    exact (g_sliceA h (.inl hu) hsz hx hlo hhi hmx hbd).does
   ·cases hs
  ·rename_i arr hu
   split at hc
   ·rename_i n e hu2
    obtain ⟨s, hsz, rfl⟩ := map_some hc
    simp only [opSem] at hs
    split at hs
    ·rename_i b off hb
     rw [hb] at hx
     obtain ⟨⟨l, hh, m⟩, hbd, he⟩ := map_some hs
     cases he
     exact (g_sliceA h (.inr ⟨arr, hu, hu2⟩) hsz hx hlo hhi hmx hbd).does
    ·cases hs
   ·cases hc
  ·cases hc
 | fieldAddr s x i =>
  simp only [hop, Op.operands] at hc hok hv ⊢
  have hx := hv x (by simp)
  split at hc
  ·rename_i fs hu
   simp only [Option.bind_eq_some_iff] at hc
   obtain ⟨f, hf, n, hn, hc⟩ := hc
   split at hc
   ·cases hc
   ·rename_i h0
    cases hc
    simp only [opSem] at hs
    split at hs
    ·rename_i b off hb
     rw [hb] at hx
     cases hs
     exact (g_fieldAddr h hu hf hn h0 hx).does
    ·cases hs
  ·cases hc
 | field s x i =>
  simp only [hop, Op.operands] at hc hok hv ⊢
  have hx := hv x (by simp)
  split at hc
  ·rename_i fs hu
   simp only [Option.bind_eq_some_iff] at hc
   obtain ⟨f, hf, hc⟩ := hc
   obtain ⟨n, hn, rfl⟩ := map_some hc
   simp only [opSem] at hs
   split at hs
   ·rename_i c hb
    rw [hb] at hx
    obtain ⟨r, hr, he⟩ := map_some hs
    cases he
    exact (g_field h hu hf hn hx hr).does
   ·cases hs
  ·cases hc
 | indexAddr ty x i =>
  simp only [hop, Op.operands] at hc hok hv ⊢
  have hx := hv x (by simp)
  have hi := hv i (by simp)
  split at hc
  ·rename_i n e hu
   obtain ⟨s, hsz, rfl⟩ := map_some hc
   simp only [opSem] at hs
   split at hs
   ·rename_i b off k iv hb hbi
    rw [hb] at hx
    rw [hbi] at hi
    split at hs
    ·rename_i hcond
     cases hs
     exact (g_addrA h hu hsz hx hi hcond.1 hcond.2).does
    ·cases hs
   ·cases hs
  ·rename_i e hu
   obtain ⟨s, hsz, rfl⟩ := map_some hc
   simp only [opSem] at hs
   split at hs
   ·rename_i ad len cap k iv hb hbi
    rw [hb] at hx
    rw [hbi] at hi
    split at hs
    ·rename_i hcond
     cases hs
     exact (g_addrL h hu hsz hx hi hcond.1 hcond.2).does
    ·cases hs
   ·cases hs
  ·cases hc
 | index ty x i =>
  simp only [hop, Op.operands] at hc hok hv ⊢
  have hx := hv x (by simp)
  have hi := hv i (by simp)
  split at hc
  ·rename_i n e hu
   simp only [Option.bind_eq_some_iff] at hc
   obtain ⟨s, hsz, hc⟩ := hc
   obtain ⟨ag, hag, rfl⟩ := map_some hc
   simp only [opSem] at hs
   split at hs
   ·rename_i c k iv hb hbi
    rw [hb] at hx
    rw [hbi] at hi
    split at hs
    ·rename_i hcond
     obtain ⟨r, hr, he⟩ := map_some hs
     cases he
     exact (g_idxA h hu hsz hag hx hi hcond.1 hcond.2 hr).does
    ·cases hs
   ·cases hs
  ·rename_i hu
   cases hc
   simp only [opSem] at hs
   split at hs
   ·rename_i sb k iv hb hbi
    rw [hb] at hx
    rw [hbi] at hi
    split at hs
    ·rename_i hcond
     obtain ⟨r, hr, he⟩ := map_some hs
     cases he
     exact (g_idxS h hu hx hi hcond hr).does
    ·cases hs
   ·cases hs
  ·cases hc
 | extract x i =>
  simp only [hop, Op.operands] at hc hok hv ⊢
  cases hc
  have hx := hv x (by simp)
  simp only [opSem] at hs
  split at hs
  ·rename_i vs hb
   rw [hb] at hx
   obtain ⟨r, hr, he⟩ := map_some hs
   cases he
   exact (g_extract h hx hr).does
  ·cases hs
 | range ty x =>
  simp only [hop, Op.operands] at hc hok hv ⊢
  have hx := hv x (by simp)
  split at hc
  ·rename_i hu
   cases hc
   simp only [opSem] at hs
   split at hs
   ·rename_i sb hb
    rw [hb] at hx
    cases hs
    exact (g_rangeS h hu hx).does
   ·cases hs
  ·rename_i hu
   cases hc
   simp only [opSem] at hs
   split at hs
   ·rename_i hb
    rw [hb] at hx
    cases hs
    exact (g_rangeM0 h hu hx).does
   ·rename_i m hb
    rw [hb] at hx
    split at hs
    ·rename_i hg
     cases hs
     exact (g_rangeM h hu hx hg).does
    ·rename_i hg
     cases hs
     exact (g_rangeL h hu hx hg).does
    ·cases hs
   ·cases hs
  ·cases hc
 | entry it =>
  simp only [hop, Op.operands] at hc hok hv ⊢
  cases hc
  have hx := hv it (by simp)
  simp only [opSem] at hs
  split at hs
  ·rename_i b hb
   rw [hb] at hx
   split at hs
   ·rename_i m since seen last hg
    split at hs
    ·rename_i st es clock hst hm
     split at hs
     ·rename_i hcl
      subst hcl
      obtain ⟨e, he, h2⟩ := map_some hs
      cases h2
      exact (g_entry h hx hg hst hm he).does
     ·cases hs
    ·cases hs
   ·cases hs
  ·cases hs
 | next it isS =>
  simp only [hop, Op.operands] at hc hok hv ⊢
  cases isS with
  | false =>
   cases hc
   have hx := hv it (by simp)
   simp only [opSem] at hs
   split at hs
   ·rename_i b hb
    rw [hb] at hx
    split at hs
    ·rename_i hg
     cases hs
     exact (g_nextM0 h hx hg).does
    ·rename_i m hg
     split at hs
     ·rename_i hm
      cases hs
      exact (g_nextM h hx hg hm).does
     ·cases hs
    ·cases hs
   ·cases hs
  | true =>
   cases hc
   have hx := hv it (by simp)
   simp only [opSem] at hs
   split at hs
   ·rename_i b hb
    rw [hb] at hx
    split at hs
    ·rename_i sb pos hg
     exact (g_nextS h hx hg hs).does
    ·cases hs
   ·cases hs
 | lookup ty x i ok =>
  simp only [hop, Op.operands] at hc hok hv ⊢
  have hx := hv x (by simp)
  have hi := hv i (by simp)
  split at hc
  ·rename_i kt e hu
   simp only [Option.bind_eq_some_iff] at hc
   obtain ⟨z, hz, hc⟩ := hc
   obtain ⟨⟨ag, sg⟩, hsg, rfl⟩ := map_some hc
   simp only [opSem] at hs
   split at hs
   ·rename_i hb
    split at hs
    ·rename_i hko
     cases hs
     rw [hb] at hx
     exact (g_lookup h hu hz hsg hx hi hko (.inl ⟨rfl, rfl⟩)).does
    ·cases hs
   ·rename_i r hb
    rw [hb] at hx
    split at hs
    ·rename_i es clock hg
     split at hs
     ·cases hs
     ·rename_i hko
      obtain ⟨q, hq, he⟩ := map_some hs
      cases he
      exact (g_lookup h hu hz hsg hx hi (by simpa using hko) (.inr ⟨r, es, clock, q, rfl, hg, hq, rfl⟩)).does
    ·cases hs
   ·cases hs
  ·cases hc
 | mapUpdate ty x i y =>
  simp only [hop, Op.operands] at hc hok hv ⊢
  have hx := hv x (by simp)
  have hi := hv i (by simp)
  have hy := hv y (by simp)
  split at hc
  ·rename_i kt e hu
   obtain ⟨⟨ag, sg⟩, hsg, rfl⟩ := map_some hc
   simp only [opSem] at hs
   split at hs
   ·rename_i r hb
    rw [hb] at hx
    split at hs
    ·rename_i es clock hg
     split at hs
     ·rename_i hcond
      obtain ⟨q, hq, he⟩ := map_some hs
      cases he
      exact Does.unit (g_mapUpd h hu hsg hx hi hy hcond.2 hg hcond.1 hq)
     ·cases hs
    ·cases hs
   ·cases hs
  ·cases hc
 | insert ty x i y =>
  simp only [hop, Op.operands] at hc hok hv ⊢
  have hx := hv x (by simp)
  have hi := hv i (by simp)
  have hy := hv y (by simp)
  split at hc
  ·rename_i kt e hu
   obtain ⟨⟨ag, sg⟩, hsg, rfl⟩ := map_some hc
   simp only [opSem] at hs
   split at hs
   ·rename_i r hb
    rw [hb] at hx
    split at hs
    ·rename_i es clock hg
     split at hs
     ·rename_i hcond
      obtain ⟨q, hq, he⟩ := map_some hs
      cases he
      exact Does.unit (g_mapUpd h hu hsg hx hi hy hcond.2 hg hcond.1 hq)
     ·cases hs
    ·cases hs
   ·cases hs
  ·cases hc
 | call c =>
  simp only [hop] at hc hok hv ⊢
  obtain ⟨callee, args, argTypes⟩ := c
  cases callee with
  | invoke r s => cases hc
  | value f => cases hc
  | builtin b =>
   have hex : ∀ s : Sem Value, (∀ consts, builtin b argTypes o.type consts (args.map a.eval) = do pure (Next.value (← s))) → Gives P idf s φ M w v M' →
     Does P idf φ M w (do let d ← resolve a.eval { callee := .builtin b, args := args, argTypes := argTypes } o.type; invoke d.target d.args) v M' := by
    intro s he g
    have : (do let d ← resolve a.eval { callee := .builtin b, args := args, argTypes := argTypes } o.type; invoke d.target d.args) = (do pure (Next.value (← s)) : Sem Next) := by
     simp only [resolve, pure_bind, invoke, he]
    rw [this]
    exact g.does
   have hargs : ∀ x ∈ args.toList, VRel φ (ev t x) (a.eval x) := fun x hx => hv x (by simpa [Op.operands, Call.operands] using hx)
   have two : ∀ {x y : Operand}, args.toList = [x, y] → args.map a.eval = #[a.eval x, a.eval y] ∧ VRel φ (ev t x) (a.eval x) ∧ VRel φ (ev t y) (a.eval y) := by
    intro x y he
    have : args = #[x, y] := by apply Array.ext'; simpa using he
    subst this
    exact ⟨by simp, hargs x (by simp), hargs y (by simp)⟩
   have one : ∀ {x : Operand}, args.toList = [x] → args.map a.eval = #[a.eval x] ∧ VRel φ (ev t x) (a.eval x) := by
    intro x he
    have : args = #[x] := by apply Array.ext'; simpa using he
    subst this
    exact ⟨by simp, hargs x (by simp)⟩
   have ty2 : ∀ {x y : TypeId}, argTypes.toList = [x, y] → argTypes = #[x, y] := fun he => by apply Array.ext'; simpa using he
   have ty1 : ∀ {x : TypeId}, argTypes.toList = [x] → argTypes = #[x] := fun he => by apply Array.ext'; simpa using he
   simp only at hc
   split at hc
   ·-- append
    rename_i s x ts tx ha hty
    obtain ⟨e1, hvs, hvx⟩ := two ha
    have e2 := ty2 hty
    split at hc
    ·rename_i e e' hu1 hu2
     simp only [Option.bind_eq_some_iff] at hc
     obtain ⟨⟨sz, z⟩, hz, hc⟩ := hc
     obtain ⟨by', hby, rfl⟩ := map_some hc
     simp only [opSem] at hs
     split at hs
     ·rename_i hst
      refine hex _ (fun consts => by rw [e1, e2]; rfl) (g_append h hu1 hz hby (.inl ⟨_, hu2⟩) hvs hvx (fun b hb => by rw [hb] at hst; cases hst) (fun _ _ _ _ => ⟨_, hu2⟩) (fun _ _ => ⟨_, hu2⟩) hs)
     ·cases hs
    ·rename_i e hu1 hu2
     simp only [Option.bind_eq_some_iff] at hc
     obtain ⟨⟨sz, z⟩, hz, hc⟩ := hc
     obtain ⟨by', hby, rfl⟩ := map_some hc
     simp only [opSem] at hs
     split at hs
     ·rename_i hst
      refine hex _ (fun consts => by rw [e1, e2]; rfl) (g_append h hu1 hz hby (.inr hu2) hvs hvx (fun b hb => hu2) (fun _ _ _ hb => by rw [hb] at hst; cases hst) (fun _ hb => by rw [hb] at hst; cases hst) hs)
     ·cases hs
    ·rename_i e kn hu1 hu2
     simp only [Option.bind_eq_some_iff] at hc
     obtain ⟨⟨sz, z⟩, hz, hc⟩ := hc
     obtain ⟨by', hby, rfl⟩ := map_some hc
     exact hex _ (fun consts => by rw [e1, e2]; rfl) (g_appZ h hu1 hu2 hz hby hvs hvx hs)
    ·cases hc
   ·-- copy
    rename_i d s td ts ha hty
    obtain ⟨e1, hvd, hvs⟩ := two ha
    have e2 := ty2 hty
    split at hc
    ·rename_i e hu
     simp only [Option.bind_eq_some_iff] at hc
     obtain ⟨sz, hz, hc⟩ := hc
     split at hc
     ·cases hc
     ·cases hc
      simp only [opSem] at hs
      exact hex _ (fun consts => by rw [e1, e2]; rfl) (g_copy h hu hz hvd hvs hs)
    ·cases hc
   ·-- len
    rename_i x ty ha hty
    obtain ⟨e1, hvx⟩ := one ha
    have e2 := ty1 hty
    split at hc
    ·rename_i n e hu
     cases hc
     simp only [opSem] at hs
     cases hs
     exact hex _ (fun consts => by rw [e1, e2]; rfl) (g_lenA h (.inl hu))
    ·rename_i ar hu
     split at hc
     ·rename_i n e hu2
      cases hc
      simp only [opSem] at hs
      cases hs
      exact hex _ (fun consts => by rw [e1, e2]; rfl) (g_lenA h (.inr ⟨ar, hu, hu2⟩))
     ·cases hc
    ·rename_i hu
     cases hc
     simp only [opSem] at hs
     cases hb : ev t x <;> simp only [hb] at hs <;> try (cases hs; done)
     rw [hb] at hvx
     cases hs
     exact hex _ (fun consts => by rw [e1, e2]; rfl) (g_lenS h hvx hu)
    ·rename_i e hu
     cases hc
     simp only [opSem] at hs
     cases hb : ev t x <;> simp only [hb] at hs <;> try (cases hs; done)
     all_goals rw [hb] at hvx
     all_goals first
      | (cases hs; exact hex _ (fun consts => by rw [e1, e2]; rfl) (g_lenL h hvx hu))
      | (rename_i o; cases o with
       | none => cases hs
       | some k => cases hs; exact hex _ (fun consts => by rw [e1, e2]; rfl) (g_lenH h hvx hu))
    ·rename_i k e hu
     cases hc
     simp only [opSem] at hs
     cases hb : ev t x <;> simp only [hb] at hs <;> try (cases hs; done)
     rename_i r
     rw [hb] at hvx
     cases r with
     | none =>
      simp only at hs
      cases hs
      exact hex _ (fun consts => by rw [e1, e2]; rfl) (g_lenM0 h hvx hu)
     | some r =>
      simp only at hs
      split at hs
      ·rename_i es clock hg
       cases hs
       exact hex _ (fun consts => by rw [e1, e2]; rfl) (g_lenM h hvx hu hg)
      ·cases hs
    ·cases hc
   ·-- cap
    rename_i x ty ha hty
    obtain ⟨e1, hvx⟩ := one ha
    have e2 := ty1 hty
    split at hc
    ·rename_i n e hu
     cases hc
     simp only [opSem] at hs
     cases hs
     exact hex _ (fun consts => by rw [e1, e2]; rfl) (g_capA h hu)
    ·rename_i e hu
     cases hc
     simp only [opSem] at hs
     obtain ⟨r, hm, he⟩ := map_some hs
     cases he
     exact hex _ (fun consts => by rw [e1, e2]; rfl) (g_cap h hvx hu hm)
    ·cases hc
   ·-- min
    rename_i x xs ha
    cases hc
    simp only [opSem] at hs
    obtain ⟨r, hr, he⟩ := map_some hs
    cases he
    have e1 : args = (x :: xs).toArray := by apply Array.ext'; simpa using ha
    subst e1
    exact hex (List.foldlM Builtin.min2 (a.eval x) (xs.map a.eval)) (fun consts => by simp [builtin, Builtin.min_]) (by simpa using g_minmax h false (hargs x (by simp)) (evs_rel fun y hy => hargs y (by simp [hy])) hr)
   ·-- max
    rename_i x xs ha
    cases hc
    simp only [opSem] at hs
    obtain ⟨r, hr, he⟩ := map_some hs
    cases he
    have e1 : args = (x :: xs).toArray := by apply Array.ext'; simpa using ha
    subst e1
    exact hex (List.foldlM Builtin.max2 (a.eval x) (xs.map a.eval)) (fun consts => by simp [builtin, Builtin.max_]) (by simpa using g_minmax h true (hargs x (by simp)) (evs_rel fun y hy => hargs y (by simp [hy])) hr)
   ·-- delete
    rename_i mm k ty ty2' ha hty
    obtain ⟨e1, hvm, hvk⟩ := two ha
    have e2 := ty2 hty
    split at hc
    ·rename_i kt e hu
     obtain ⟨⟨ag, sg⟩, hsg, rfl⟩ := map_some hc
     simp only [opSem] at hs
     split at hs
     ·rename_i r hb
      rw [hb] at hvm
      split at hs
      ·rename_i es clock hg
       split at hs
       ·rename_i hcond
        obtain ⟨q, hq, he⟩ := map_some hs
        cases he
        exact hex _ (fun consts => by rw [e1, e2]; rfl) (g_delete h hu hsg hvm hvk hcond.2 hg hcond.1 hq)
       ·cases hs
      ·cases hs
     ·cases hs
    ·cases hc
   ·-- unsafe.SliceData
    rename_i x ha
    obtain ⟨e1, hvx⟩ := one ha
    cases hc
    simp only [opSem] at hs
    obtain ⟨r, hm, he⟩ := map_some hs
    cases he
    exact hex _ (fun consts => by rw [e1]; rfl) (g_sliceData h hvx hm)
   ·-- unsafe.String
    rename_i p n ty tn ha hty
    obtain ⟨e1, hvp, hvn⟩ := two ha
    split at hc
    ·rename_i u hu
     split at hc
     ·rename_i hu2
      split at hc
      ·rename_i hsz
       cases hc
       simp only [beq_iff_eq] at hsz
       have e2 := ty2 hty
       simp only [opSem] at hs
       split at hs
       ·rename_i kn nv hbn
        rw [hbn] at hvn
        exact hex _ (fun consts => by rw [e1, e2]; rfl) (g_uString h hu hsz hvp hvn hs)
       ·cases hs
      ·cases hc
     ·cases hc
    ·cases hc
   ·cases hc
 | panic x =>
  simp only [hop] at hc
  cases hc
  simp only [opSem] at hs
  cases hs
 | _ => simp only [hop] at hc; cases hc
end
end Go.Proofs.Ytifemfnjoobiiaa.Run
