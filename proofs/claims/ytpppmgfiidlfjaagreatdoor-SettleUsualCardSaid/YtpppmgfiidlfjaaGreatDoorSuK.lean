/-
  Each operation of the ideal machine does what the real one does.
-/
import Derived.Test.YtpppmgfiidlfjaaGreatDoorSuJ
import Derived.Tactics
import Derived.CallsIn
set_option linter.unusedSimpArgs false
set_option linter.unusedVariables false
set_option linter.unusedSectionVars false
namespace Go.Proofs.YtpppmgfiidlfjaaGreatDoor.Sim

/-- Deferred calls of a frame: nothing but marks of empty blocks for the rounds' deferred calls, which no ideal object is of. -/
def DefOk (B : Nat) (ε : Env) (H : IH) (w : World) : List Deferred → Prop
  | [] => True
  | d :: ds => (∃ b, d = { target := .collected b, args := #[] } ∧ B ≤ b ∧ w.heap[b]? = some (.deferred (some [])) ∧ ¬ Own ε H b ∧ ∀ d', d' ∈ ds → d'.target ≠ .collected b) ∧ DefOk B ε H w ds

theorem DefOk.step {N B : Nat} {ε ε' : Env} {H H' : IH} {w w' : World} (s : Step N ε H w ε' H' w') : ∀ {ds : List Deferred}, DefOk B ε H w ds → DefOk B ε' H' w' ds
  | [], _ => trivial
  | _ :: _, h => by
    obtain ⟨⟨b, h1, h2, h3, h4, h5⟩, h6⟩ := h
    have hlt : b < w.heap.size := (Array.getElem?_eq_some_iff.1 h3).1
    refine ⟨⟨b, h1, h2, by rw [s.frame b hlt h4]; exact h3, fun ho => ?_, h5⟩, DefOk.step s h6⟩
    rcases s.own b ho with h | h
    · exact h4 h
    · omega

/-- A frame that holds what the ideal one says; the world had at least B blocks when it was entered. -/
structure FRel (B : Nat) (ε : Env) (H : IH) (w : World) (n : Nat) (T : TM) (a : Act) : Prop where
  size : a.tmps.size = n
  base : B ≤ w.heap.size
  defers : DefOk B ε H w a.defers
  at_ : ∀ t, a.tmps.getD t undef = den ε (T.at t) ∧ ok ε (T.at t)

/-- What is known of the real value of an operand. -/
def SeesT (ε : Env) (T : TM) (a : Act) (t : Nat) : Prop := a.tmps.getD t undef = den ε (T.at t) ∧ ok ε (T.at t)
def Sees (ε : Env) (T : TM) (a : Act) (x : Operand) : Prop := ∀ t, x = .tmp t → SeesT ε T a t

theorem evalO_den {ε : Env} {T : TM} {a : Act} {x : Operand} {v : IV} (hs : Sees ε T a x) (h : evalO T x = some v) : a.eval x = den ε v ∧ ok ε v := by
  cases x with
  | tmp t => simp only [evalO, Option.some.injEq] at h; subst h; exact hs t rfl
  | const c => have := ofVal_den ε c v h; exact ⟨this.1.symm, this.2⟩
  | global g => simp only [evalO, Option.some.injEq] at h; subst h; exact ⟨rfl, trivial⟩
  | func f => simp only [evalO, Option.some.injEq] at h; subst h; exact ⟨rfl, trivial, trivial⟩

theorem evals_nil (T : TM) : evals T [] = some [] := rfl
theorem evals_cons (T : TM) (x : Operand) (l : List Operand) : evals T (x :: l) = (evalO T x).bind fun v => (evals T l).map (v :: ·) := rfl
theorem evals_den {ε : Env} {T : TM} {a : Act} : ∀ {l : List Operand} {vs : List IV}, (∀ x, x ∈ l → Sees ε T a x) → evals T l = some vs → l.map a.eval = dens ε vs ∧ oks ε vs
  | [], vs, _, h => by simp only [evals_nil, Option.some.injEq] at h; subst h; exact ⟨rfl, trivial⟩
  | x :: l, vs, hs, h => by
    simp only [evals_cons, Option.bind_eq_some_iff, Option.map_eq_some_iff] at h
    obtain ⟨v, hv, vs', hvs, rfl⟩ := h
    have h1 := evalO_den (hs x (by simp)) hv
    have h2 := evals_den (fun y hy => hs y (by simp [hy])) hvs
    exact ⟨by simp [dens, h1.1, h2.1], h1.2, h2.2⟩
theorem evalParts_den {ε : Env} {T : TM} {a : Act} : ∀ {l : List (Nat × Operand)} {ps : List (Nat × IV)}, (∀ x, x ∈ l → Sees ε T a x.2) → evalParts T l = some ps →
    l.map (fun x => (x.1, a.eval x.2)) = ps.map (fun x => (x.1, den ε x.2)) ∧ ∀ x, x ∈ ps → ok ε x.2
  | [], ps, _, h => by
    have h : some [] = some ps := h
    cases h; exact ⟨rfl, fun x hx => by cases hx⟩
  | x :: l, ps, hs, h => by
    have h : ((evalO T x.2).bind fun v => (evalParts T l).map ((x.1, v) :: ·)) = some ps := h
    simp only [Option.bind_eq_some_iff, Option.map_eq_some_iff] at h
    obtain ⟨v, hv, vs', hvs, rfl⟩ := h
    have h1 := evalO_den (hs x (by simp)) hv
    have h2 := evalParts_den (fun y hy => hs y (by simp [hy])) hvs
    refine ⟨by simp [h1.1, h2.1], fun y hy => ?_⟩
    rcases List.mem_cons.1 hy with rfl | hy
    · exact h1.2
    · exact h2.2 y hy

/-- The whole of what is known between the two machines. -/
structure Rel (G : Tr (List IV)) (N : Nat) (ε : Env) (H : IH) (w : World) : Prop where
  rel : HRel N ε H w
  fresh : ∀ k, H.nx ≤ k → ε k = none
  gl : H.gl = G

theorem Rel.step {G : Tr (List IV)} {N : Nat} {ε ε' : Env} {H H' : IH} {w w' : World} (h : Rel G N ε H w) (s : Step N ε H w ε' H' w') : Rel G N ε' H' w' where
  rel := s.rel
  fresh k hk := by
    by_cases e : ε' k = ε k
    · rw [e]; exact h.fresh k (Nat.le_trans s.nx hk)
    · have := s.new k e; omega
  gl := s.gl.trans h.gl

/-- What a call gives. -/
def Gives (N : Nat) (ε : Env) (H : IH) (w : World) (v : IV) (H' : IH) : Ending → World → Prop
  | .returned u, w' => ∃ ε', u = den ε' v ∧ ok ε' v ∧ Step N ε H w ε' H' w'
  | _, _ => False

structure FnOk (P : Program) (f : FuncId) (fn : IFn) : Prop where
  ex : ∃ F, P.funcs[f]? = some F ∧ F.body = some fn.body ∧ F.ntmps = fn.ntmps ∧ F.results.toList = fn.results ∧ (F.name == "runtime.NumGoroutine") = false

/-- A function of the program that has a body. -/
def Known (P : Program) (f : FuncId) : Prop := ∃ F c, P.funcs[f]? = some F ∧ F.body = some c ∧ (F.name == "runtime.NumGoroutine") = false

def CallsOk (P : Program) (G : Tr (List IV)) (r : Fns) : Prop :=
  ∀ (N : Nat) (ε : Env) (H : IH) (w : World) (f : FuncId) (args : List IV) (v : IV) (H' : IH), Rel G N ε H w → oks ε args → r.call f args H = some (v, H') →
    Known P f ∧ Calls P f (dens ε args).toArray w (Gives N ε H w v H')

/-- Calls of yield. -/
def RoundOk (P : Program) (G : Tr (List IV)) (r : Fns) : Prop :=
  ∀ (N : Nat) (ε : Env) (H : IH) (w : World) (k : Nat) (args : List IV) (v : IV) (H' : IH), Rel G N ε H w → ok ε (.yl k) → oks ε args → iround r k args H = some (v, H') →
    ∃ L f tmps assign body, ε k = some L ∧ (Instr.yield L.blk (dens ε args).toArray).run P w = .ok (.round L.blk f tmps assign body) w ∧
      RoundIn Fence.wide 1 P L.blk f tmps assign body w (Gives N ε H w v H')

structure CallOk (P : Program) (G : Tr (List IV)) (r : Fns) : Prop where
  calls : CallsOk P G r
  rounds : RoundOk P G r

section
variable {P : Program} {G : Tr (List IV)} {N : Nat} {ε : Env} {H : IH} {w : World} {ty : TypeId → Option TI} (hty : TysOk P ty) {r : Fns}

/-- What an operation does: it gives a value, or nothing, or it enters a function. -/
def Does (P : Program) (N : Nat) (ε : Env) (H : IH) (w : World) (v : IV) (H' : IH) (a : Act) (o : Oper) : Prop :=
  (∃ ε' w', (execOp a.eval o).run P w = .ok (.value (den ε' v)) w' ∧ ok ε' v ∧ Step N ε H w ε' H' w') ∨
  (∃ ε' w', (execOp a.eval o).run P w = .ok .skip w' ∧ v = .tup [] ∧ Step N ε H w ε' H' w') ∨
  (∃ f args, (execOp a.eval o).run P w = .ok (.enter f args) w ∧ Calls P f args w (Gives N ε H w v H')) ∨
  (∃ l f tmps assign body, (execOp a.eval o).run P w = .ok (.round l f tmps assign body) w ∧ RoundIn Fence.wide 1 P l f tmps assign body w (Gives N ε H w v H'))

theorem Does.of_value {v : IV} {H' : IH} {a : Act} {o : Oper} {ε' : Env} {w' : World} (h : (execOp a.eval o).run P w = .ok (.value (den ε' v)) w') (hv : ok ε' v) (hs : Step N ε H w ε' H' w') : Does P N ε H w v H' a o :=
  .inl ⟨ε', w', h, hv, hs⟩

theorem Does.of_skip {H' : IH} {a : Act} {o : Oper} {ε' : Env} {w' : World} (h : (execOp a.eval o).run P w = .ok .skip w') (hs : Step N ε H w ε' H' w') : Does P N ε H w (.tup []) H' a o :=
  .inr (.inl ⟨ε', w', h, rfl, hs⟩)

theorem Does.pure {v : IV} {a : Act} {o : Oper} (hr : HRel N ε H w) (h : (execOp a.eval o).run P w = .ok (.value (den ε v)) w ∧ ok ε v) : Does P N ε H w v H a o :=
  Does.of_value h.1 h.2 (Step.refl hr)

theorem optEval_den {T : TM} {a : Act} {x : Option Operand} {v : Option IV} (hs : ∀ y, x = some y → Sees ε T a y) (h : optEval T x = some v) : x.map a.eval = v.map (den ε) ∧ (∀ u, v = some u → ok ε u) := by
  cases x with
  | none => simp only [optEval, Option.some.injEq] at h; subst h; exact ⟨rfl, fun u hu => by cases hu⟩
  | some y =>
    simp only [optEval, Option.map_eq_some_iff] at h
    obtain ⟨u, hu, rfl⟩ := h
    have := evalO_den (hs y rfl) hu
    exact ⟨by simp [this.1], fun u' hu' => by cases hu'; exact this.2⟩

theorem pureV_some {H H' : IH} {x : Option IV} {v : IV} (h : pureV H x = some (v, H')) : x = some v ∧ H' = H := by
  simp only [pureV, Option.map_eq_some_iff, Prod.mk.injEq] at h
  obtain ⟨y, hy, rfl, rfl⟩ := h
  exact ⟨hy, rfl⟩
theorem unitV_some {H' : IH} {x : Option IH} {v : IV} (h : unitV x = some (v, H')) : x = some H' ∧ v = .tup [] := by
  simp only [unitV, Option.map_eq_some_iff, Prod.mk.injEq] at h
  obtain ⟨y, hy, rfl, rfl⟩ := h
  exact ⟨hy, rfl⟩

include hty in
theorem sim_slice {t : TypeId} {T : TM} {a : Act} {x : Operand} {lo hi mx : Option Operand} {v : IV} {H' : IH} (hx : Sees ε T a x) (hlo : ∀ y, lo = some y → Sees ε T a y) (hhi : ∀ y, hi = some y → Sees ε T a y) (hmx : ∀ y, mx = some y → Sees ε T a y)
    (h : oSlice ty T H t x lo hi mx = some (v, H')) : H' = H ∧ (Instr.sliceAt t (a.eval x) (lo.map a.eval) (hi.map a.eval) (mx.map a.eval)).run P w = .ok (den ε v) w ∧ ok ε v := by
  have key : ∀ es, oSliceK T H es x lo hi mx = some (v, H') → H' = H ∧ ∃ xv lv hv mv, a.eval x = den ε xv ∧ ok ε xv ∧ lo.map a.eval = lv.map (den ε) ∧ hi.map a.eval = hv.map (den ε) ∧ mx.map a.eval = mv.map (den ε) ∧ islice es xv lv hv mv = some v ∧ kindOk es xv = true := by
    intro es h
    simp only [oSliceK, Option.bind_eq_some_iff] at h
    obtain ⟨xv, hxv, lv, hlv, hv, hhv, mv, hmv, h⟩ := h
    cases hk : kindOk es xv with
    | false => simp [hk] at h
    | true =>
    simp only [hk, cond_true] at h
    obtain ⟨h1, rfl⟩ := pureV_some h
    have e1 := evalO_den hx hxv
    exact ⟨rfl, xv, lv, hv, mv, e1.1, e1.2, (optEval_den hlo hlv).1, (optEval_den hhi hhv).1, (optEval_den hmx hmv).1, h1, hk⟩
  simp only [oSlice, Option.bind_eq_some_iff] at h
  obtain ⟨ti, ht, h⟩ := h
  obtain ⟨d, hu, he, _⟩ := (hty t ti ht).und
  split at h
  · rename_i hd
    rw [hd] at he; obtain rfl := descTy_str he
    obtain ⟨rfl, xv, lv, hv, mv, e1, e2, e3, e4, e5, h1, hk⟩ := key _ h
    refine ⟨rfl, ?_⟩
    rw [e1, e3, e4, e5]
    cases xv with
    | s s => exact sim_slice_string hu rfl h1
    | _ => simp [kindOk] at hk
  · rename_i e hd
    rw [hd] at he; obtain rfl := descTy_slice he
    simp only [Option.bind_eq_some_iff] at h
    obtain ⟨ei, hei, h⟩ := h
    obtain ⟨rfl, xv, lv, hv, mv, e1, e2, e3, e4, e5, h1, hk⟩ := key _ h
    refine ⟨rfl, ?_⟩
    rw [e1, e3, e4, e5]
    cases xv with
    | s0 => exact sim_slice_nil hu (hty _ _ hei) h1
    | sl k o len cap ex sz => exact sim_slice_sl hu (hty _ _ hei) e2 h1
    | _ => simp [kindOk] at hk
  · cases h

/-- Operands of the whole operation. -/
def SeesOp (ε : Env) (T : TM) (a : Act) (o : Op) : Prop := ∀ x, x ∈ o.operands.toList → Sees ε T a x

include hty in
theorem sim_call {T : TM} {a : Act} {o : Oper} {c : Call} (hc : o.op = .call c) (hw : Rel G N ε H w) (hs : SeesOp ε T a o.op) (hcall : CallOk P G r) {v : IV} {H' : IH}
    (h : oCall ty r T H c = some (v, H')) : Does P N ε H w v H' a o := by
  have hargs : ∀ x, x ∈ c.args.toList → Sees ε T a x := fun x hx => hs x (by rw [hc]; simp only [Op.operands, Call.operands, Array.toList_append, List.mem_append]; exact .inr hx)
  unfold oCall at h
  cases hcc : c.callee with
  | invoke r m => simp [hcc] at h
  | value f =>
    simp only [hcc, oCallVal, Option.bind_eq_some_iff] at h
    obtain ⟨fv, hfv, h⟩ := h
    have hf := evalO_den (a := a) (ε := ε) (hs f (by rw [hc]; simp [Op.operands, Call.operands, hcc])) hfv
    split at h
    · rename_i g first cap
      simp only [Option.bind_eq_some_iff] at h
      obtain ⟨vs, hvs, h⟩ := h
      have he := evals_den hargs hvs
      have hok : oks ε (first ++ vs ++ cap) := oks_append (oks_append hf.2.1 he.2) hf.2.2
      obtain ⟨⟨F, body, hF, hb, hn⟩, hcalls⟩ := hcall.calls N ε H w g _ v H' hw hok h
      have hexec : (execOp a.eval o).run P w = .ok (.enter g (dens ε (first ++ vs ++ cap)).toArray) w := by
        have hd : (dens ε (first ++ vs ++ cap)).toArray = (dens ε first).toArray ++ (c.args.map a.eval) ++ (dens ε cap).toArray := by
          have h1 := he.1
          apply Array.ext'
          simp [dens_map] at h1 ⊢
          exact h1.symm
        simp only [execOp, hc, resolve, hcc, hf.1, den, Deferred.ofValue, Sem.run_bind, Sem.run_pure, Result.andThen_ok, invoke, callFunc, run_program, hF, hn, hb, Option.isNone_some, Bool.false_eq_true, if_false, hd]
      exact .inr (.inr (.inl ⟨_, _, hexec, hcalls⟩))
    · rename_i k
      simp only [Option.bind_eq_some_iff] at h
      obtain ⟨vs, hvs, h⟩ := h
      have he := evals_den hargs hvs
      obtain ⟨L, fn, tmps, assign, body, hL, hy, hround⟩ := hcall.rounds N ε H w k vs v H' hw hf.2 he.2 h
      have hargsv : c.args.map a.eval = (dens ε vs).toArray := by
        apply Array.ext'
        simpa using he.1
      have hexec : (execOp a.eval o).run P w = .ok (.round L.blk fn tmps assign body) w := by
        simp only [execOp, hc, resolve, hcc, hf.1, den, hL, Deferred.ofValue, Sem.run_bind, Sem.run_pure, Result.andThen_ok, invoke, callFunc, hargsv]
        simpa using hy
      exact .inr (.inr (.inr ⟨_, _, _, _, _, hexec, hround⟩))
    · cases h
  | builtin b =>
    simp only [hcc, oBuiltin, Option.bind_eq_some_iff] at h
    obtain ⟨vs, hvs, h⟩ := h
    have he := evals_den hargs hvs
    have hexec : ∃ consts, (execOp a.eval o).run P w = (builtin b c.argTypes o.type consts (dens ε vs).toArray).run P w := by
      have : c.args.map a.eval = (dens ε vs).toArray := by
        apply Array.ext'
        simpa using he.1
      simp only [execOp, hc, resolve, hcc, Sem.run_bind, Sem.run_pure, Result.andThen_ok, invoke, this]
      exact ⟨_, rfl⟩
    obtain ⟨consts, hexec⟩ := hexec
    have hts : ∀ l, c.argTypes.toList = l → c.argTypes = l.toArray := fun l hl => by rw [← hl]
    split at h
    · rename_i x t hat
      obtain ⟨h1, rfl⟩ := pureV_some h
      have h2 := sim_len hty (u := o.type) hw.rel he.2.1 h1
      refine Does.pure hw.rel ⟨?_, h2.2⟩
      rw [hexec, hts _ hat]
      simp [builtin, dens, h2.1]
    · rename_i x t hat
      obtain ⟨h1, rfl⟩ := pureV_some h
      have h2 := sim_cap hty (w := w) (u := o.type) he.2.1 h1
      refine Does.pure hw.rel ⟨?_, h2.2⟩
      rw [hexec, hts _ hat]
      simp [builtin, dens, h2.1]
    · rename_i x l
      obtain ⟨h1, rfl⟩ := pureV_some h
      have h2 := sim_max (P := P) (ε := ε) (w := w) l x v h1
      have h3 : ok ε v := by
        cases l with
        | nil => have : some x = some v := h1; cases this; exact he.2.1
        | cons y l => exact h2.2 (by simp)
      refine Does.pure hw.rel ⟨?_, h3⟩
      rw [hexec]
      simp [builtin, dens, Builtin.max_, h2.1]
    · rename_i x l
      obtain ⟨h1, rfl⟩ := pureV_some h
      have h2 := sim_min (P := P) (ε := ε) (w := w) l x v h1
      have h3 : ok ε v := by
        cases l with
        | nil => have : some x = some v := h1; cases this; exact he.2.1
        | cons y l => exact h2.2 (by simp)
      refine Does.pure hw.rel ⟨?_, h3⟩
      rw [hexec]
      simp [builtin, dens, Builtin.min_, h2.1]
    · rename_i s x t u hat
      simp only [Option.bind_eq_some_iff] at h
      obtain ⟨ui, hui, z, hz, h⟩ := h
      obtain ⟨ε', w', hrun, hv, hst⟩ := sim_append hty (r := o.type) hui hz hw.rel (hw.fresh _ (Nat.le_refl _)) he.2.1 he.2.2.1 h
      refine Does.of_value ?_ hv hst
      rw [hexec, hts _ hat]
      simp [builtin, dens, hrun]
    · rename_i x t hat
      obtain ⟨h1, rfl⟩ := unitV_some h
      obtain ⟨w', hrun, hst⟩ := sim_clear hty (r := o.type) hw.rel he.2.1 h1
      refine Does.of_value (ε' := ε) ?_ trivial hst
      rw [hexec, hts _ hat]
      simp [builtin, dens, hrun, den]
    · cases h

theorem sees1 {T : TM} {a : Act} {o : Op} (hs : SeesOp ε T a o) {x : Operand} {v : IV} (hx : x ∈ o.operands.toList) (h : evalO T x = some v) : a.eval x = den ε v ∧ ok ε v := evalO_den (hs x hx) h

include hty in
theorem sim_iop {T : TM} {a : Act} {o : Oper} (hw : Rel G N ε H w) (hs : SeesOp ε T a o.op) (hcall : CallOk P G r) {v : IV} {H' : IH} (h : iop ty r T H o.op = some (v, H')) : Does P N ε H w v H' a o := by
  have hf := hw.fresh _ (Nat.le_refl _)
  unfold iop at h
  split at h
  -- move
  · rename_i x he
    obtain ⟨h1, rfl⟩ := pureV_some h
    have e1 := sees1 hs (x := x) (by rw [he]; simp [Op.operands]) h1
    exact Does.pure hw.rel ⟨by simp [execOp, he, e1.1], e1.2⟩
  -- assign
  · rename_i x he
    obtain ⟨h1, rfl⟩ := pureV_some h
    have e1 := sees1 hs (x := x) (by rw [he]; simp [Op.operands]) h1
    exact Does.pure hw.rel ⟨by simp [execOp, he, e1.1], e1.2⟩
  -- pick
  · rename_i c x y he
    simp only [oPick, Option.bind_eq_some_iff] at h
    obtain ⟨cv, hcv, h⟩ := h
    have e0 := sees1 hs (x := c) (by rw [he]; simp [Op.operands]) hcv
    cases cv <;> simp only [reduceCtorEq] at h
    rename_i b
    cases b with
    | true =>
      simp only [cond_true] at h
      obtain ⟨h1, rfl⟩ := pureV_some h
      have e1 := sees1 hs (x := x) (by rw [he]; simp [Op.operands]) h1
      exact Does.pure hw.rel ⟨by simp [execOp, he, e0.1, den, asBool, e1.1], e1.2⟩
    | false =>
      simp only [cond_false] at h
      obtain ⟨h1, rfl⟩ := pureV_some h
      have e1 := sees1 hs (x := y) (by rw [he]; simp [Op.operands]) h1
      exact Does.pure hw.rel ⟨by simp [execOp, he, e0.1, den, asBool, e1.1], e1.2⟩
  -- alloc
  · rename_i t he
    simp only [oAlloc, Option.bind_eq_some_iff] at h
    obtain ⟨ti, ht, z, hz, h⟩ := h
    cases hb : z.cells.all IV.single with
    | false => simp [hb] at h
    | true =>
    simp only [hb, cond_true, Option.some.injEq, Prod.mk.injEq] at h
    obtain ⟨rfl, rfl⟩ := h
    have hzr := (hty t ti ht).run_zero hz ε w
    obtain ⟨w', hrow, hst⟩ := sim_newRow (P := P) hw.rel hf (ok_cells hzr.2) hb t
    refine Does.of_value ?_ ⟨_, by simp [upd]; rfl⟩ hst
    simp [execOp, he, Instr.alloc, hzr.1, newVar, den_cells z hzr.2, hrow, den, upd]
  -- box
  · rename_i t x he
    simp only [oBox, Option.bind_eq_some_iff] at h
    obtain ⟨xv, hxv, h⟩ := h
    have e1 := sees1 hs (x := x) (by rw [he]; simp [Op.operands]) hxv
    cases hb : xv.cells.all IV.single with
    | false => simp [hb] at h
    | true =>
    simp only [hb, cond_true, Option.some.injEq, Prod.mk.injEq] at h
    obtain ⟨rfl, rfl⟩ := h
    obtain ⟨w', hrow, hst⟩ := sim_newRow (P := P) hw.rel hf (ok_cells e1.2) hb t
    refine Does.of_value ?_ ⟨_, by simp [upd]; rfl⟩ hst
    simp [execOp, he, Instr.box, e1.1, newVar, den_cells xv e1.2, hrow, den, upd]
  -- build
  · rename_i t parts he
    simp only [oBuild, Option.bind_eq_some_iff] at h
    obtain ⟨ps, hps, h⟩ := h
    obtain ⟨h1, rfl⟩ := pureV_some h
    have e1 := evalParts_den (a := a) (ε := ε) (fun x hx => hs x.2 (by rw [he]; simp [Op.operands]; exact ⟨x.1, by simpa using hx⟩)) hps
    have h2 := sim_build hty (w := w) e1.2 h1
    refine Does.pure hw.rel ⟨?_, h2.2⟩
    have : parts.map (fun x => (x.1, a.eval x.2)) = (ps.map fun x => (x.1, den ε x.2)).toArray := by
      apply Array.ext'; simpa using e1.1
    simp only [execOp, he, this, Sem.run_bind, h2.1, Result.andThen_ok, Sem.run_pure]
  -- buildSlice
  · rename_i t len parts he
    simp only [oBuildSlice, Option.bind_eq_some_iff] at h
    obtain ⟨ps, hps, h⟩ := h
    have e1 := evalParts_den (a := a) (ε := ε) (fun x hx => hs x.2 (by rw [he]; simp [Op.operands]; exact ⟨x.1, by simpa using hx⟩)) hps
    obtain ⟨ε', w', hrun, hv, hst⟩ := sim_buildSlice hty hw.rel hf e1.2 h
    refine Does.of_value ?_ hv hst
    have : parts.map (fun x => (x.1, a.eval x.2)) = (ps.map fun x => (x.1, den ε x.2)).toArray := by
      apply Array.ext'; simpa using e1.1
    simp only [execOp, he, this, Sem.run_bind, hrun, Result.andThen_ok, Sem.run_pure]
  -- load
  · rename_i t x he
    simp only [oLoad, Option.bind_eq_some_iff] at h
    obtain ⟨ti, ht, av, hav, h⟩ := h
    obtain ⟨h1, rfl⟩ := pureV_some h
    have e1 := sees1 hs (x := x) (by rw [he]; simp [Op.operands]) hav
    have h2 := sim_load (hty t ti ht) hw.rel e1.2 h1
    exact Does.pure hw.rel ⟨by simp only [execOp, he, e1.1, Sem.run_bind, h2.1, Result.andThen_ok, Sem.run_pure], h2.2⟩
  -- store
  · rename_i t x y he
    simp only [oStore, Option.bind_eq_some_iff] at h
    obtain ⟨ti, ht, av, hav, xv, hxv, h⟩ := h
    obtain ⟨h1, rfl⟩ := unitV_some h
    have e1 := sees1 hs (x := x) (by rw [he]; simp [Op.operands]) hav
    have e2 := sees1 hs (x := y) (by rw [he]; simp [Op.operands]) hxv
    obtain ⟨w', hrun, hst⟩ := sim_store (hty t ti ht) hw.rel e1.2 e2.2 h1
    exact Does.of_skip (by simp only [execOp, he, e1.1, e2.1, Sem.run_bind, hrun, Result.andThen_ok, Sem.run_pure]) hst
  -- nilCheck
  · rename_i x he
    simp only [oNilCheck, Option.bind_eq_some_iff] at h
    obtain ⟨xv, hxv, h⟩ := h
    have e1 := sees1 hs (x := x) (by rw [he]; simp [Op.operands]) hxv
    split at h
    · cases h
      obtain ⟨L, hL⟩ := e1.2
      exact Does.pure hw.rel ⟨by simp [execOp, he, e1.1, den, hL], L, hL⟩
    · cases h
      exact Does.pure hw.rel ⟨by simp [execOp, he, e1.1, den], trivial⟩
    · cases h
      exact Does.pure hw.rel ⟨by simp [execOp, he, e1.1, den], e1.2⟩
    · cases h
  -- binOp
  · rename_i op t x y _ he
    simp only [oBin, Option.bind_eq_some_iff] at h
    obtain ⟨xv, hxv, yv, hyv, h⟩ := h
    obtain ⟨h1, rfl⟩ := pureV_some h
    have e1 := sees1 hs (x := x) (by rw [he]; simp [Op.operands]) hxv
    have e2 := sees1 hs (x := y) (by rw [he]; simp [Op.operands]) hyv
    have h2 := sim_bin hty (w := w) (x := x) (y := y) e1.2 e2.2 h1
    exact Does.pure hw.rel ⟨by simp only [execOp, he, e1.1, e2.1, Sem.run_bind] at h2 ⊢; simp only [h2.1, Result.andThen_ok, Sem.run_pure], h2.2⟩
  -- unOp
  · rename_i op _ x he
    simp only [oUn, Option.bind_eq_some_iff] at h
    obtain ⟨xv, hxv, h⟩ := h
    obtain ⟨h1, rfl⟩ := pureV_some h
    have e1 := sees1 hs (x := x) (by rw [he]; simp [Op.operands]) hxv
    have h2 := sim_un (P := P) (ε := ε) (w := w) h1
    exact Does.pure hw.rel ⟨by simp only [execOp, he, e1.1, Sem.run_bind, h2.1, Result.andThen_ok, Sem.run_pure], h2.2⟩
  -- convert
  · rename_i sr ds x he
    simp only [oConv, Option.bind_eq_some_iff] at h
    obtain ⟨xv, hxv, h⟩ := h
    obtain ⟨h1, rfl⟩ := pureV_some h
    have e1 := sees1 hs (x := x) (by rw [he]; simp [Op.operands]) hxv
    have h2 := sim_conv hty (ε := ε) (w := w) h1
    exact Does.pure hw.rel ⟨by simp only [execOp, he, e1.1, Sem.run_bind, h2.1, Result.andThen_ok, Sem.run_pure], h2.2⟩
  -- makeFunc
  · rename_i fn first cap he
    simp only [oMakeFunc, Option.bind_eq_some_iff, Option.some.injEq, Prod.mk.injEq] at h
    obtain ⟨fv, hfv, cv, hcv, rfl, rfl⟩ := h
    have e1 := evals_den (a := a) (ε := ε) (fun x hx => hs x (by rw [he]; simp only [Op.operands, Array.toList_append, List.mem_append]; exact .inl hx)) hfv
    have e2 := evals_den (a := a) (ε := ε) (fun x hx => hs x (by rw [he]; simp only [Op.operands, Array.toList_append, List.mem_append]; exact .inr hx)) hcv
    have h1 : first.map a.eval = (dens ε fv).toArray := by apply Array.ext'; simpa using e1.1
    have h2 : cap.map a.eval = (dens ε cv).toArray := by apply Array.ext'; simpa using e2.1
    exact Does.pure hw.rel ⟨by simp [execOp, he, h1, h2, Instr.makeFunc, den], e1.2, e2.2⟩
  -- makeMap
  · rename_i t x he
    cases x with
    | some x => simp [oMakeMap] at h
    | none =>
      simp only [oMakeMap, Option.some.injEq, Prod.mk.injEq] at h
      obtain ⟨rfl, rfl⟩ := h
      refine Does.of_value ?_ ⟨_, by simp [upd]; rfl⟩ (Step.allocMap hw.rel hf)
      simp [execOp, he, Instr.makeMap, den, upd, grow]
  -- makeSlice
  · rename_i t l c he
    simp only [oMakeSlice, Option.bind_eq_some_iff] at h
    obtain ⟨lv, hlv, cv, hcv, h⟩ := h
    have e1 := sees1 hs (x := l) (by rw [he]; simp [Op.operands]) hlv
    have e2 := sees1 hs (x := c) (by rw [he]; simp [Op.operands]) hcv
    obtain ⟨ε', w', hrun, hv, hst⟩ := sim_makeSlice hty hw.rel hf h
    exact Does.of_value (by simp only [execOp, he, e1.1, e2.1, Sem.run_bind, hrun, Result.andThen_ok, Sem.run_pure]) hv hst
  -- slice
  · rename_i t x lo hi mx he
    have hmem : ∀ y, (y = x ∨ lo = some y ∨ hi = some y ∨ mx = some y) → Sees ε T a y := fun y hy => hs y (by
      rw [he]; simp only [Op.operands, Array.toList_append, List.mem_append]
      rcases hy with rfl | rfl | rfl | rfl <;> simp)
    obtain ⟨rfl, h2⟩ := sim_slice hty (w := w) (hmem x (.inl rfl)) (fun y hy => hmem y (.inr (.inl hy))) (fun y hy => hmem y (.inr (.inr (.inl hy)))) (fun y hy => hmem y (.inr (.inr (.inr hy)))) h
    exact Does.pure hw.rel ⟨by simp only [execOp, he, Sem.run_bind, h2.1, Result.andThen_ok, Sem.run_pure], h2.2⟩
  -- fieldAddr
  · rename_i t x f he
    simp only [oFieldAddr, Option.bind_eq_some_iff] at h
    obtain ⟨xv, hxv, h⟩ := h
    obtain ⟨h1, rfl⟩ := pureV_some h
    have e1 := sees1 hs (x := x) (by rw [he]; simp [Op.operands]) hxv
    have h2 := sim_fieldAddr hty (w := w) e1.2 h1
    exact Does.pure hw.rel ⟨by simp only [execOp, he, e1.1, Sem.run_bind, h2.1, Result.andThen_ok, Sem.run_pure], h2.2⟩
  -- field
  · rename_i t x f he
    simp only [oField, Option.bind_eq_some_iff] at h
    obtain ⟨xv, hxv, h⟩ := h
    obtain ⟨h1, rfl⟩ := pureV_some h
    have e1 := sees1 hs (x := x) (by rw [he]; simp [Op.operands]) hxv
    have h2 := sim_field hty (w := w) e1.2 h1
    exact Does.pure hw.rel ⟨by simp only [execOp, he, e1.1, Sem.run_bind, h2.1, Result.andThen_ok, Sem.run_pure], h2.2⟩
  -- indexAddr
  · rename_i t x i he
    simp only [oIndexAddr, Option.bind_eq_some_iff] at h
    obtain ⟨xv, hxv, iv, hiv, h⟩ := h
    obtain ⟨h1, rfl⟩ := pureV_some h
    have e1 := sees1 hs (x := x) (by rw [he]; simp [Op.operands]) hxv
    have e2 := sees1 hs (x := i) (by rw [he]; simp [Op.operands]) hiv
    have h2 := sim_indexAddr hty (w := w) e1.2 h1
    exact Does.pure hw.rel ⟨by simp only [execOp, he, e1.1, e2.1, Sem.run_bind, h2.1, Result.andThen_ok, Sem.run_pure], h2.2⟩
  -- index
  · rename_i t x i he
    simp only [oIndex, Option.bind_eq_some_iff] at h
    obtain ⟨xv, hxv, iv, hiv, h⟩ := h
    obtain ⟨h1, rfl⟩ := pureV_some h
    have e1 := sees1 hs (x := x) (by rw [he]; simp [Op.operands]) hxv
    have e2 := sees1 hs (x := i) (by rw [he]; simp [Op.operands]) hiv
    have h2 := sim_index hty (w := w) e1.2 h1
    exact Does.pure hw.rel ⟨by simp only [execOp, he, e1.1, e2.1, Sem.run_bind, h2.1, Result.andThen_ok, Sem.run_pure], h2.2⟩
  -- lookup
  · rename_i t x i okb he
    simp only [oLookup, Option.bind_eq_some_iff] at h
    obtain ⟨xv, hxv, iv, hiv, h⟩ := h
    obtain ⟨h1, rfl⟩ := pureV_some h
    have e1 := sees1 hs (x := x) (by rw [he]; simp [Op.operands]) hxv
    have e2 := sees1 hs (x := i) (by rw [he]; simp [Op.operands]) hiv
    have h2 := sim_lookup hty hw.rel e1.2 e2.2 h1
    exact Does.pure hw.rel ⟨by simp only [execOp, he, e1.1, e2.1, Sem.run_bind, h2.1, Result.andThen_ok, Sem.run_pure], h2.2⟩
  -- mapUpdate
  · rename_i t m k x he
    simp only [oMapUpdate, Option.bind_eq_some_iff] at h
    obtain ⟨mv, hmv, kv, hkv, xv, hxv, h⟩ := h
    obtain ⟨h1, rfl⟩ := unitV_some h
    have e0 := sees1 hs (x := m) (by rw [he]; simp [Op.operands]) hmv
    have e1 := sees1 hs (x := k) (by rw [he]; simp [Op.operands]) hkv
    have e2 := sees1 hs (x := x) (by rw [he]; simp [Op.operands]) hxv
    obtain ⟨w', hrun, hst⟩ := sim_mapUpdate hty hw.rel e0.2 e1.2 e2.2 h1
    exact Does.of_skip (by simp only [execOp, he, e0.1, e1.1, e2.1, Sem.run_bind, hrun, Result.andThen_ok, Sem.run_pure]) hst
  -- insert
  · rename_i t m k x he
    simp only [oMapUpdate, Option.bind_eq_some_iff] at h
    obtain ⟨mv, hmv, kv, hkv, xv, hxv, h⟩ := h
    obtain ⟨h1, rfl⟩ := unitV_some h
    have e0 := sees1 hs (x := m) (by rw [he]; simp [Op.operands]) hmv
    have e1 := sees1 hs (x := k) (by rw [he]; simp [Op.operands]) hkv
    have e2 := sees1 hs (x := x) (by rw [he]; simp [Op.operands]) hxv
    obtain ⟨w', hrun, hst⟩ := sim_mapUpdate hty hw.rel e0.2 e1.2 e2.2 h1
    exact Does.of_skip (by simp only [execOp, he, e0.1, e1.1, e2.1, Sem.run_bind, hrun, Result.andThen_ok, Sem.run_pure]) hst
  -- extract
  · rename_i x i he
    simp only [oExtract, Option.bind_eq_some_iff] at h
    obtain ⟨xv, hxv, h⟩ := h
    have e1 := sees1 hs (x := x) (by rw [he]; simp [Op.operands]) hxv
    split at h
    · rename_i l
      obtain ⟨h1, rfl⟩ := pureV_some h
      refine Does.pure hw.rel ⟨?_, (oks_iff ε l).1 e1.2 v (List.mem_of_getElem? h1)⟩
      simp [execOp, he, e1.1, den, Instr.extract, dens_map, h1]
    · cases h
  -- call
  · rename_i c he
    exact sim_call hty he hw hs hcall h
  · cases h
end
end Go.Proofs.YtpppmgfiidlfjaaGreatDoor.Sim
