/-
  Runs that are told in pieces.
-/
import Derived.Test.YtpppmgfiidlfjaaGreatDoorSuR
set_option linter.unusedSimpArgs false
set_option linter.unusedVariables false
set_option linter.unusedSectionVars false
namespace Go.Proofs.YtpppmgfiidlfjaaGreatDoor.Sim

/- A run that is told in pieces. -/
def takeSeq : Nat → Code → List Code
  | k + 1, .seq a b => a :: takeSeq k b
  | _, _ => []
def dropSeq : Nat → Code → Code
  | k + 1, .seq _ b => dropSeq k b
  | _, c => c
def seqs : List Code → Code → Code
  | [], c => c
  | a :: l, c => .seq a (seqs l c)

theorem seqs_take : ∀ (k : Nat) (c : Code), seqs (takeSeq k c) (dropSeq k c) = c
  | 0, _ => rfl
  | k + 1, .seq a b => by simp only [takeSeq, dropSeq, seqs, seqs_take k b]
  | k + 1, .skip => rfl
  | k + 1, .label _ => rfl
  | k + 1, .region .. => rfl
  | k + 1, .cond .. => rfl
  | k + 1, .block .. => rfl
  | k + 1, .loop _ => rfl
  | k + 1, .exit _ => rfl
  | k + 1, .ret => rfl
  | k + 1, .goto _ => rfl
  | k + 1, .scope .. => rfl
  | k + 1, .rangeFunc .. => rfl
  | k + 1, .refuse _ => rfl

noncomputable def execs (r : Fns) (n : Nat) (l : List Code) : TM → IH → Option (TM × IH) :=
  List.rec (motive := fun _ => TM → IH → Option (TM × IH)) (fun T H => some (T, H))
    (fun c _ ih T H => (r.exec n c T H).bind fun x => match x.1 with | .normal => ih x.2.1 x.2.2 | _ => none) l

section
variable {P : Program} {G : Tr (List IV)} {ty : TypeId → Option TI} {r : Fns} {n : Nat}

theorem execs_cons (c : Code) (l : List Code) (T : TM) (H : IH) : execs r n (c :: l) T H = (r.exec n c T H).bind fun x => match x.1 with | .normal => execs r n l x.2.1 x.2.2 | _ => none := rfl

theorem codeOk_seqs (hexec : ExecOk P G r) {rest : Code} {x : IExit} {T2 : TM} {H2 : IH} : ∀ (l : List Code) (T : TM) (H : IH) (T1 : TM) (H1 : IH), execs r n l T H = some (T1, H1) → CodeOk P G n rest T1 H1 x T2 H2 → CodeOk P G n (seqs l rest) T H x T2 H2
  | [], T, H, T1, H1, h, hr => by
    have h : some (T, H) = some (T1, H1) := h
    cases h
    exact hr
  | c :: l, T, H, T1, H1, h, hr => by
    rw [execs_cons, Option.bind_eq_some_iff] at h
    obtain ⟨⟨y, T', H'⟩, h1, h⟩ := h
    cases y with
    | normal =>
      have ih := codeOk_seqs hexec l T' H' T1 H1 h hr
      intro ro N B ε a w hro hw hf Q hq
      refine wpIn_seq (hexec n c T H _ T' H' h1 ro N B ε a w (hro.imp id fun h => (Bool.and_eq_true_iff.1 h).1) hw hf _ fun ε1 a1 w1 hf1 hst1 => ?_)
      exact ih ro N B ε1 a1 w1 (hro.imp id fun h => (Bool.and_eq_true_iff.1 h).2) (hw.step hst1) hf1 Q fun ε2 a2 w2 hf2 hst2 => hq ε2 a2 w2 hf2 (hst1.trans hst2)
    | exit id => cases h
    | ret => cases h

def objEq : IObj → IObj → Bool
  | .cells none c, .cells none c' => eqvs (eqv 20) c c'
  | .cells (some m) c, .cells (some m') c' => Nat.beq m m' && eqvs (eqv 20) c c'
  | .map es, .map es' => eqvs (eqv 20) (es.map (·.1)) (es'.map (·.1)) && eqvs (eqv 20) (es.map (·.2)) (es'.map (·.2))
  | _, _ => false

theorem objEq_eq {a b : IObj} (h : objEq a b = true) : a = b := by
  unfold objEq at h
  split at h
  · rw [eqvs_eq (eqv_eq 20) _ _ h]
  · simp only [Bool.and_eq_true] at h
    rw [Nat.eq_of_beq_eq_true h.1, eqvs_eq (eqv_eq 20) _ _ h.2]
  · simp only [Bool.and_eq_true] at h
    have h1 := eqvs_eq (eqv_eq 20) _ _ h.1
    have h2 := eqvs_eq (eqv_eq 20) _ _ h.2
    rename_i es es'
    congr 1
    have hz : ∀ l : List (IV × IV), l = (l.map (·.1)).zip (l.map (·.2)) := fun l => by
      induction l with
      | nil => rfl
      | cons x l ih => simp only [List.map_cons, List.zip_cons_cons, ← ih]
    rw [hz es, hz es', h1, h2]
  · cases h

/-- A state that is written out. -/
structure Lit where
  tmps : List (Nat × IV)
  heap : List (Nat × IObj)
  nx : Nat

noncomputable def Lit.T (l : Lit) : TM := build l.tmps
noncomputable def Lit.H (l : Lit) (G : Tr (List IV)) : IH := ⟨build l.heap, l.nx, G⟩

noncomputable def tmpsOk (T : TM) (L : TM) : Nat → Bool
  | 0 => true
  | k + 1 => eqv 20 (T.at k) (L.at k) && tmpsOk T L k

theorem tmpsOk_spec {T L : TM} : ∀ (k : Nat), tmpsOk T L k = true → ∀ t, t < k → T.at t = L.at t
  | 0, _, t, ht => by omega
  | k + 1, h, t, ht => by
    simp only [tmpsOk, Bool.and_eq_true] at h
    by_cases e : t = k
    · subst e; exact eqv_eq 20 _ _ h.1
    · exact tmpsOk_spec k h.2 t (by omega)

noncomputable def heapOk (H : IH) (nx : Nat) (x : Nat × IObj) : Bool :=
  Nat.blt x.1 nx && match H.get x.1 with | some o => objEq o x.2 | none => false

/-- The state is at least the one that is written out. -/
noncomputable def litOk (n : Nat) (l : Lit) (x : TM × IH) : Bool :=
  tmpsOk x.1 l.T n && (l.tmps.all (fun y => Nat.blt y.1 n) && (Nat.beq x.2.nx l.nx && l.heap.all (heapOk x.2 l.nx)))

theorem codeOk_part {c : Code} {x : IExit} {T1 T2 : TM} {H1 H2 : IH} {l : Lit} (hl : litOk n l (T1, H1) = true) (h : CodeOk P G n c (l.T) (l.H G) x T2 H2) : CodeOk P G n c T1 H1 x T2 H2 := by
  intro ro N B ε a w hro hw hf Q hq
  simp only [litOk, Bool.and_eq_true] at hl
  obtain ⟨h1, h2, h3, h4⟩ := hl
  have hnx := Nat.eq_of_beq_eq_true h3
  have hget : ∀ k o, (l.H G).get k = some o → k < l.nx ∧ H1.get k = some o := fun k o hk => by
    have hm := build_mem l.heap k o hk
    have := List.all_eq_true.1 h4 _ hm
    simp only [heapOk, Bool.and_eq_true] at this
    refine ⟨blt_iff.1 this.1, ?_⟩
    have h5 := this.2
    split at h5
    · rename_i o' ho
      rw [ho, objEq_eq h5]
    · cases h5
  have hhas : ∀ k, (l.H G).has k → H1.has k := fun k hk => by
    rcases hk with ⟨m, c, hk⟩ | ⟨o, hk, ho⟩
    · exact .inl ⟨m, c, (hget _ _ hk).2⟩
    · exact .inr ⟨o, (hget _ _ hk).2, ho⟩
  have hrel : HRel N ε (l.H G) w := hw.rel.part hw.gl.symm (fun k hk => by
      rcases hk with ⟨m, c, hk⟩ | ⟨o, hk, _⟩ <;> exact (hget _ _ hk).1) (fun k o hk _ => (hget k o hk).2)
  have hst : Step N ε H1 w ε (l.H G) w := ⟨fun _ _ h => h, fun _ h => absurd rfl h, by rw [hnx]; exact Nat.le_refl _, hrel, Nat.le_refl _, fun _ _ _ => rfl, fun b hb => .inl (by
      obtain ⟨k, L, hk, hL, e⟩ := hb
      exact ⟨k, L, hhas k hk, hL, e⟩), rfl, rfl, rfl, hw.gl.symm⟩
  have hat : ∀ t, a.tmps.getD t undef = den ε (l.T.at t) ∧ ok ε (l.T.at t) := fun t => by
    by_cases ht : t < n
    · rw [← tmpsOk_spec n h1 t ht]; exact hf.at_ t
    · have h5 : l.T.at t = .tup [] := by
        unfold TM.at
        cases hh : l.T.get (bits t) with
        | none => rfl
        | some v =>
          have := List.all_eq_true.1 h2 _ (build_mem l.tmps t v hh)
          exact absurd (blt_iff.1 this) ht
      rw [h5]
      refine ⟨?_, trivial⟩
      have : a.tmps.size ≤ t := by rw [hf.size]; omega
      rw [Array.getD_eq_getD_getElem?, Array.getElem?_eq_none this]
      rfl
  exact h ro N B ε a w hro (hw.step hst) ⟨hf.size, hf.base, hf.defers.step hst, hat⟩ Q fun ε' a' w' h5 h6 => hq ε' a' w' h5 (hst.trans h6)

/-- An answer out of what is said of the function's code. -/
theorem answer_of_code (hty : TysOk P ty) (hG : GlFlat G) {f : FuncId} {fn : IFn} (hfn : FnOk P f fn) {args : List IV} (ha : args.all IV.flat = true) (hle : Nat.ble args.length fn.ntmps = true) {v : IV} (hv : v.flat = true) {x : IExit} {T1 : TM} {H1 : IH}
    (h : CodeOk P G fn.ntmps fn.body (enterT 0 args .e) (H0of G) x T1 H1) (hk : (callK ty fn (x, T1, H1)).map (fun y => eqv 2 y.1 v) = some true) : Answer P G (f, args, v) := by
  intro N ε H w R
  obtain ⟨F, hF, hb, hn, hres, hname⟩ := hfn.ex
  refine ⟨⟨F, fn.body, hF, hb, hname⟩, ?_⟩
  have R0 := rel_empty hG R
  have hd := flat_dens (ε := fun _ => none) (ε' := ε) ha
  refine (callsIn_wide (n := 1)).1 (callsIn_of_wp_marks hF hb trivial ?_)
  rw [hn]
  show Code.wpIn Fence.wide 1 P fn.body _ { tmps := (dens ε args).toArray ++ _, defers := [] } w
  rw [hd.1]
  refine h none _ w.heap.size _ _ w (.inl rfl) R0 (enter_rel hd.2 (Nat.le_of_ble_eq_true hle)) _ fun ε1 a1 w1 hf1 st => ?_
  have key : ∀ l, results1 ty T1 H1 fn.results = some l → eqv 2 (tupled l) v = true → LeavesInM Fence.wide 1 P F a1.tmps (Gives N ε H w v H) a1.defers .returning w1 := by
    intro l hl he
    rw [← hres] at hl
    refine leaves_of (Nat.le_refl _) a1.defers w1 hf1.defers st fun w2 st2 => ?_
    have hheap : ∀ b, b < w.heap.size → w2.heap[b]? = w.heap[b]? := fun b hb => st2.frame b hb (fun ⟨k, M, hk, _⟩ => H0_none hk)
    have hstep : Step N ε H w ε H w2 := by
      refine ⟨fun _ _ h => h, fun _ h => absurd rfl h, Nat.le_refl _, ?_, st2.size, fun b hb _ => hheap b hb, fun _ h => .inl h, st2.os, st2.tape, st2.output, rfl⟩
      refine R.rel.move (fun _ _ h => h) (fun _ _ => rfl) st2.size (fun b hb => hheap b ?_)
      rcases hb with hb | hb
      · have := R.rel.base; omega
      · exact R.rel.own_lt hb
    have h2 := run_results (P := P) hty st2.rel hf1.at_ hl
    have he := eqv_eq 2 _ _ he
    rw [he] at h2
    have hf := flat_den hv ε ε1
    exact ⟨_, h2.1, ε, hf.1, hf.2, hstep⟩
  simp only [Option.map_eq_some_iff] at hk
  obtain ⟨y, hy, he⟩ := hk
  unfold callK at hy
  cases x with
  | exit id => cases hy
  | normal =>
    simp only [Option.map_eq_some_iff] at hy
    obtain ⟨l, hl, rfl⟩ := hy
    exact key l hl he
  | ret =>
    simp only [Option.map_eq_some_iff] at hy
    obtain ⟨l, hl, rfl⟩ := hy
    exact key l hl he
end
end Go.Proofs.YtpppmgfiidlfjaaGreatDoor.Sim
