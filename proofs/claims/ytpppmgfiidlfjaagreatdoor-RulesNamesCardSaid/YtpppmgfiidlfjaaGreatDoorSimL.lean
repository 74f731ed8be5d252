/-
  Code, calls and the whole machine are simulated.
-/
import Derived.Test.YtpppmgfiidlfjaaGreatDoorSimK
import Derived.LoopN
set_option linter.unusedSimpArgs false
set_option linter.unusedVariables false
set_option linter.unusedSectionVars false
namespace Go.Proofs.YtpppmgfiidlfjaaGreatDoor.Sim
section
variable {P : Program} {G : Tr (List IV)} {N : Nat} {ε ε' : Env} {H : IH} {w : World} {n : Nat} {T : TM} {a : Act}

theorem at_set (T : TM) (d t : Nat) (v : IV) : TM.at (Tr.set v (bits d) T) t = if d = t then v else T.at t := by
  unfold TM.at
  rw [get_set]
  split <;> rfl

theorem FRel.ext (h : FRel ε n T a) (he : Ext ε ε') : FRel ε' n T a :=
  ⟨h.size, h.defers, fun t => by
    have h1 := h.at_ t
    have h2 := den_ext he _ h1.2
    exact ⟨by rw [h2.1]; exact h1.1, h2.2⟩⟩

theorem FRel.put (h : FRel ε n T a) {dst : Option Tmp} {v : IV} {T' : TM} (hp : putT n dst v T = some T') (hv : ok ε v) : FRel ε n T' (a.put dst (den ε v)) := by
  cases dst with
  | none => simp only [putT, Option.some.injEq] at hp; subst hp; exact h
  | some d =>
    simp only [putT] at hp
    cases hb : Nat.blt d n with
    | false => simp [hb] at hp
    | true =>
      simp only [hb, cond_true, Option.some.injEq] at hp
      subst hp
      have hd := blt_iff.1 hb
      refine ⟨by simp [Act.put, h.size], h.defers, fun t => ?_⟩
      rw [at_set]
      by_cases e : d = t
      · subst e
        have : d < a.tmps.size := by rw [h.size]; exact hd
        rw [if_pos rfl]
        refine ⟨?_, hv⟩
        simp [Act.put, this]
      · rw [if_neg e]
        have h1 := h.at_ t
        refine ⟨?_, h1.2⟩
        rw [← h1.1]
        simp [Act.put, Array.getElem?_setIfInBounds_ne e]

theorem FRel.sees (h : FRel ε n T a) (o : Op) : SeesOp ε T a o := fun _ _ t _ => h.at_ t

theorem wanted_eq {ops : Array Oper} {o : Oper} (h : ∀ j want d, o.guard = some (j, want) → (ops[j]?).bind (·.dst) = some d → SeesT ε T a d) :
    Region.wanted o (yielded ops a.tmps) = isWanted T ops.toList o := by
  unfold Region.wanted isWanted
  cases hg : o.guard with
  | none => rfl
  | some gw =>
    obtain ⟨j, want⟩ := gw
    simp only [yielded, Array.getElem?_toList]
    cases hd : (ops[j]?).bind (·.dst) with
    | none => simp
    | some d =>
      obtain ⟨h1, h2⟩ := h j want d hg hd
      simp only [Option.bind_some]
      have key : ∀ b : Bool, a.tmps[d]? = some (.bool b) ↔ T.at d = .b b := by
        intro b
        constructor
        · intro e
          have : a.tmps.getD d undef = .bool b := by simp [e]
          rw [h1] at this
          cases hv : T.at d with
          | b x => rw [hv] at this; simpa [den] using this
          | p k o => rw [hv] at this h2; obtain ⟨L, hL⟩ := h2; simp [den, hL] at this
          | sl k o len cap ex sz => rw [hv] at this h2; obtain ⟨L, hL, _⟩ := h2; simp [den, hL] at this
          | m k => rw [hv] at this h2; obtain ⟨L, hL⟩ := h2; simp [den, hL] at this
          | _ => rw [hv] at this; simp [den] at this
        · intro e
          rw [e] at h1
          cases hx : a.tmps[d]? with
          | none => simp [hx, den, undef] at h1
          | some x => simp [hx, den] at h1; rw [h1]
      cases hv : T.at d with
      | b x => rw [(key x).2 hv]; simp
      | _ =>
        cases hx : a.tmps[d]? with
        | none => simp
        | some y =>
          cases y with
          | bool b => have := (key b).1 hx; rw [hv] at this; cases this
          | _ => simp

theorem FRel.wanted (h : FRel ε n T a) (ops : Array Oper) (o : Oper) : Region.wanted o (yielded ops a.tmps) = isWanted T ops.toList o := wanted_eq fun _ _ d _ _ => h.at_ d

variable {ty : TypeId → Option TI} (hty : TysOk P ty) {r : Fns}

theorem iops_cons (ty : TypeId → Option TI) (r : Fns) (n : Nat) (all : List Oper) (o : Oper) (l : List Oper) (T : TM) (H : IH) :
    iops ty r n all (o :: l) T H = opOne ty r n all o (iops ty r n all l) T H := rfl

include hty in
theorem sim_iops (hcall : CallOk P G r) {ops : Array Oper} {Q : Exit → Act → World → Prop} : ∀ (l : List Oper) (ε : Env) (T : TM) (H : IH) (a : Act) (w : World) (T' : TM) (H' : IH),
    Rel G N ε H w → FRel ε n T a → iops ty r n ops.toList l T H = some (T', H') → (∀ ε' a' w', FRel ε' n T' a' → Step N ε H w ε' H' w' → Q .normal a' w') → wpList P ops Q l a w
  | [], ε, T, H, a, w, T', H', hw, hf, h, hq => by
    have h : some (T, H) = some (T', H') := h
    cases h
    exact hq ε a w hf (Step.refl hw.rel)
  | o :: l, ε, T, H, a, w, T', H', hw, hf, h, hq => by
    rw [iops_cons, opOne] at h
    rw [wpList, hf.wanted]
    cases hwant : isWanted T ops.toList o with
    | false =>
      simp only [hwant, cond_false, Option.bind_eq_some_iff] at h
      obtain ⟨T1, hp, h⟩ := h
      simp only [Bool.false_eq_true, if_false]
      exact sim_iops hcall l ε T1 H _ w T' H' hw (hf.put hp trivial) h hq
    | true =>
      simp only [hwant, cond_true, Option.bind_eq_some_iff] at h
      obtain ⟨⟨v, H1⟩, hop, T1, hp, h⟩ := h
      simp only [if_true]
      left
      refine sim_iop hty hw (hf.sees o.op) hcall hop _ Q fun ε1 w1 hv hst => ?_
      exact sim_iops hcall l ε1 T1 H1 _ w1 T' H' (hw.step hst) ((hf.ext hst.ext).put hp hv) h fun ε' a' w' h1 h2 => hq ε' a' w' h1 (hst.trans h2)

def toExit : IExit → Exit
  | .normal => .normal
  | .exit id => .exit id
  | .ret => .ret

/-- What is said of code. -/
def CodeOk (P : Program) (G : Tr (List IV)) (n : Nat) (c : Code) (T : TM) (H : IH) (x : IExit) (T' : TM) (H' : IH) : Prop :=
  ∀ (N : Nat) (ε : Env) (a : Act) (w : World), Rel G N ε H w → FRel ε n T a → ∀ (Q : Exit → Act → World → Prop), (∀ ε' a' w', FRel ε' n T' a' → Step N ε H w ε' H' w' → Q (toExit x) a' w') → c.wp P Q a w

def ExecOk (P : Program) (G : Tr (List IV)) (r : Fns) : Prop :=
  ∀ (n : Nat) (c : Code) (T : TM) (H : IH) (x : IExit) (T' : TM) (H' : IH), r.exec n c T H = some (x, T', H') → CodeOk P G n c T H x T' H'

def LoopOk (P : Program) (G : Tr (List IV)) (r : Fns) (k : Nat) : Prop :=
  ∀ (n : Nat) (c : Code) (T : TM) (H : IH) (x : IExit) (T' : TM) (H' : IH), r.exec n (.loop c) T H = some (x, T', H') → ∀ (N : Nat) (ε : Env) (a : Act) (w : World), Rel G N ε H w → FRel ε n T a → ∀ (Q : Exit → Act → World → Prop), (∀ ε' a' w', FRel ε' n T' a' → Step N ε H w ε' H' w' → Q (toExit x) a' w') → Code.rounds P c Q k a w

def DrawnOk (P : Program) (G : Tr (List IV)) (ty : TypeId → Option TI) (r : Fns) : Prop :=
  ∀ (n : Nat) (id : Nat) (ops : Array Oper) (T : TM) (H : IH) (T' : TM) (H' : IH), idrawn ty r n ops.toList T H = some (T', H') → CodeOk P G n (.region id ops true) T H .normal T' H'

theorem Rel.step' {ε ε' : Env} {H H' : IH} {w w' : World} (h : Rel G N ε H w) (s : Step N ε H w ε' H' w') : Rel G N ε' H' w' := h.step s

include hty in
theorem sim_exec (hcall : CallOk P G r) (hexec : ExecOk P G r) (hdrawn : DrawnOk P G ty r) {k : Nat} (hloop : LoopOk P G r k) :
    ∀ (n : Nat) (c : Code) (T : TM) (H : IH) (x : IExit) (T' : TM) (H' : IH), iexec ty r n c T H = some (x, T', H') → CodeOk P G n c T H x T' H' ∧
      (∀ c', c = .loop c' → ∀ (N : Nat) (ε : Env) (a : Act) (w : World), Rel G N ε H w → FRel ε n T a → ∀ (Q : Exit → Act → World → Prop), (∀ ε' a' w', FRel ε' n T' a' → Step N ε H w ε' H' w' → Q (toExit x) a' w') → Code.rounds P c' Q (k + 1) a w) := by
  intro n c T H x T' H' h
  have noloop : ∀ {p : Prop}, (∀ c', c ≠ .loop c') → (∀ c', c = .loop c' → p) := fun hn c' e => absurd e (hn c')
  unfold iexec at h
  split at h
  · cases h
    refine ⟨fun N ε a w hw hf Q hq => wp_skip (hq ε a w hf (Step.refl hw.rel)), fun c' e => by cases e⟩
  · cases h
    refine ⟨fun N ε a w hw hf Q hq => wp_label (hq ε a w hf (Step.refl hw.rel)), fun c' e => by cases e⟩
  · rename_i id ops
    simp only [Option.map_eq_some_iff, Prod.mk.injEq] at h
    obtain ⟨⟨T1, H1⟩, h, rfl, rfl, rfl⟩ := h
    exact ⟨hdrawn n id ops T H T1 H1 h, fun c' e => by cases e⟩
  · rename_i id ops
    simp only [Option.map_eq_some_iff, Prod.mk.injEq] at h
    obtain ⟨⟨T1, H1⟩, h, rfl, rfl, rfl⟩ := h
    refine ⟨fun N ε a w hw hf Q hq => wp_region_list (sim_iops hty hcall _ ε T H a w T1 H1 hw hf h hq), fun c' e => by cases e⟩
  · rename_i c1 c2
    simp only [Option.bind_eq_some_iff] at h
    obtain ⟨⟨x1, T1, H1⟩, h1, h⟩ := h
    refine ⟨fun N ε a w hw hf Q hq => wp_seq (hexec n c1 T H x1 T1 H1 h1 N ε a w hw hf _ fun ε1 a1 w1 hf1 hst1 => ?_), fun c' e => by cases e⟩
    unfold seqK at h
    cases x1 with
    | normal => exact hexec n c2 T1 H1 x T' H' h N ε1 a1 w1 (hw.step hst1) hf1 Q fun ε2 a2 w2 hf2 hst2 => hq ε2 a2 w2 hf2 (hst1.trans hst2)
    | exit id => cases h; exact hq ε1 a1 w1 hf1 hst1
    | ret => cases h; exact hq ε1 a1 w1 hf1 hst1
  · rename_i co c1 c2
    simp only [Option.bind_eq_some_iff] at h
    obtain ⟨cv, hcv, h⟩ := h
    refine ⟨fun N ε a w hw hf Q hq => ?_, fun c' e => by cases e⟩
    have e1 := evalO_den (a := a) (ε := ε) (fun t _ => hf.at_ t) hcv
    cases cv <;> simp only [condK, reduceCtorEq] at h
    rename_i b
    cases b with
    | true =>
      simp only [cond_true] at h
      exact wp_cond_true (by rw [e1.1]; rfl) (hexec n c1 T H x T' H' h N ε a w hw hf Q hq)
    | false =>
      simp only [cond_false] at h
      exact wp_cond_false (by rw [e1.1]; rfl) (hexec n c2 T H x T' H' h N ε a w hw hf Q hq)
  · rename_i id c1
    simp only [Option.bind_eq_some_iff] at h
    obtain ⟨⟨x1, T1, H1⟩, h1, h⟩ := h
    refine ⟨fun N ε a w hw hf Q hq => wp_block (hexec n c1 T H x1 T1 H1 h1 N ε a w hw hf _ fun ε1 a1 w1 hf1 hst1 => ?_), fun c' e => by cases e⟩
    unfold blockK at h
    cases x1 with
    | normal => cases h; exact hq ε1 a1 w1 hf1 hst1
    | ret => cases h; exact hq ε1 a1 w1 hf1 hst1
    | exit id' =>
      simp only [toExit, Exit.inBlock]
      cases hb : Nat.beq id' id with
      | true =>
        have := Nat.eq_of_beq_eq_true hb
        simp only [hb, cond_true, Option.some.injEq, Prod.mk.injEq] at h
        obtain ⟨rfl, rfl, rfl⟩ := h
        rw [if_pos this]
        exact hq ε1 a1 w1 hf1 hst1
      | false =>
        have := Nat.ne_of_beq_eq_false hb
        simp only [hb, cond_false, Option.some.injEq, Prod.mk.injEq] at h
        obtain ⟨rfl, rfl, rfl⟩ := h
        rw [if_neg this]
        exact hq ε1 a1 w1 hf1 hst1
  · rename_i c1
    simp only [Option.bind_eq_some_iff] at h
    obtain ⟨⟨x1, T1, H1⟩, h1, h⟩ := h
    have key : ∀ (N : Nat) (ε : Env) (a : Act) (w : World), Rel G N ε H w → FRel ε n T a → ∀ (Q : Exit → Act → World → Prop), (∀ ε' a' w', FRel ε' n T' a' → Step N ε H w ε' H' w' → Q (toExit x) a' w') → Code.rounds P c1 Q (k + 1) a w := by
      intro N ε a w hw hf Q hq
      rw [rounds_succ]
      refine hexec n c1 T H x1 T1 H1 h1 N ε a w hw hf _ fun ε1 a1 w1 hf1 hst1 => ?_
      unfold seqK at h
      cases x1 with
      | normal => exact hloop n c1 T1 H1 x T' H' h N ε1 a1 w1 (hw.step hst1) hf1 Q fun ε2 a2 w2 hf2 hst2 => hq ε2 a2 w2 hf2 (hst1.trans hst2)
      | exit id => cases h; exact hq ε1 a1 w1 hf1 hst1
      | ret => cases h; exact hq ε1 a1 w1 hf1 hst1
    exact ⟨fun N ε a w hw hf Q hq => wp_loop_rounds (k + 1) (key N ε a w hw hf Q hq), fun c' e => by cases e; exact key⟩
  · cases h
    refine ⟨fun N ε a w hw hf Q hq => wp_exit (hq ε a w hf (Step.refl hw.rel)), fun c' e => by cases e⟩
  · cases h
    refine ⟨fun N ε a w hw hf Q hq => wp_ret (hq ε a w hf (Step.refl hw.rel)), fun c' e => by cases e⟩
  · cases h

/- Calls. -/
theorem enterT_cons (i : Nat) (v : IV) (l : List IV) (T : TM) : enterT i (v :: l) T = enterT (i + 1) l (Tr.set v (bits i) T) := rfl
theorem enterT_at : ∀ (l : List IV) (i : Nat) (T : TM) (t : Nat), (enterT i l T).at t = if i ≤ t ∧ t < i + l.length then (l[t - i]?).getD (.tup []) else T.at t
  | [], i, T, t => by rw [if_neg (by simp only [List.length_nil]; omega)]; rfl
  | v :: l, i, T, t => by
    rw [enterT_cons, enterT_at l]
    by_cases e : i = t
    · subst e
      rw [if_neg (by omega), at_set, if_pos rfl, if_pos (by simp)]
      simp
    · by_cases h : i + 1 ≤ t ∧ t < i + 1 + l.length
      · rw [if_pos h, if_pos (by simp; omega)]
        rw [show t - i = (t - (i + 1)) + 1 from by omega]
        rfl
      · rw [if_neg h, at_set, if_neg e, if_neg (by simp; omega)]

theorem enter_rel {args : List IV} (hok : oks ε args) (hn : args.length ≤ n) : FRel ε n (enterT 0 args .e) { tmps := (dens ε args).toArray ++ Array.replicate (n - (dens ε args).toArray.size) undef, defers := [] } where
  size := by simp; omega
  defers := rfl
  at_ t := by
    rw [enterT_at]
    by_cases h : t < args.length
    · rw [if_pos (by omega)]
      have h1 : args[t]? = some args[t] := List.getElem?_eq_getElem h
      have hd : (dens ε args).toArray[t]? = some (den ε args[t]) := by rw [List.getElem?_toArray, dens_get, h1]; rfl
      simp only [Nat.sub_zero, h1, Option.getD_some]
      refine ⟨?_, (oks_iff ε args).1 hok _ (List.getElem_mem h)⟩
      have hsz : t < (dens ε args).toArray.size := by simpa using h
      rw [Array.getD_eq_getD_getElem?, Array.getElem?_append_left hsz, hd]
      rfl
    · rw [if_neg (by omega)]
      have : TM.at (.e) t = .tup [] := by simp [TM.at]
      rw [this]
      refine ⟨?_, trivial⟩
      rw [Array.getD_eq_getD_getElem?, Array.getElem?_append_right (by simpa using h), Array.getElem?_replicate]
      split <;> rfl

/-- One result. -/
def resOne (a : Act) : ResultVar → Sem Value
  | .tmp t => pure (a.tmps.getD t undef)
  | .cell x t => do loadVar t (← asAddr (a.tmps.getD x undef))

theorem run_resOne_load {t : TypeId} {v : Value} {u : Value} (h : (Instr.loadAt t u).run P w = .ok v w) (hu : ∃ b o, u = .pointer (some ⟨b, o, none⟩)) :
    (do loadVar t (← asAddr u) : Sem Value).run P w = .ok v w := by
  obtain ⟨b, o, rfl⟩ := hu
  exact h

theorem results_den (hty : TysOk P ty) (hw : HRel N ε H w) (hf : FRel ε n T a) : ∀ (rs : List ResultVar) (l : List IV), results1 ty T H rs = some l →
    (rs.mapM (resOne a)).run P w = .ok (dens ε l) w ∧ oks ε l
  | [], l, h => by simp only [results1, Option.some.injEq] at h; subst h; exact ⟨rfl, trivial⟩
  | .tmp t :: rs, l, h => by
    simp only [results1, Option.map_eq_some_iff] at h
    obtain ⟨l', hl, rfl⟩ := h
    have h1 := results_den hty hw hf rs l' hl
    have h2 := hf.at_ t
    refine ⟨?_, h2.2, h1.2⟩
    simp only [List.mapM_cons, resOne, Sem.run_bind, Sem.run_pure, Result.andThen_ok, h1.1, dens, h2.1]
  | .cell x t :: rs, l, h => by
    simp only [results1, Option.bind_eq_some_iff, Option.map_eq_some_iff] at h
    obtain ⟨ti, ht, v, hv, l', hl, rfl⟩ := h
    have h1 := results_den hty hw hf rs l' hl
    have h2 := hf.at_ x
    have h3 := sim_load (P := P) (hty t ti ht) hw h2.2 hv
    refine ⟨?_, h3.2, h1.2⟩
    have h4 : (resOne a (.cell x t)).run P w = .ok (den ε v) w := by
      have hu : ∃ b o, den ε (T.at x) = .pointer (some ⟨b, o, none⟩) := by
        cases hx : T.at x with
        | p k o => rw [hx] at h2; obtain ⟨L, hL⟩ := h2.2; exact ⟨L.blk, L.sh + o, by simp [den, hL]⟩
        | g b o => exact ⟨b, o, rfl⟩
        | _ => rw [hx] at hv; simp [iload] at hv
      show (do loadVar t (← asAddr (a.tmps.getD x undef)) : Sem Value).run P w = _
      rw [h2.1]
      exact run_resOne_load h3.1 hu
    rw [List.mapM_cons]
    simp only [Sem.run_bind, h4, Sem.run_pure, Result.andThen_ok, h1.1, dens]

theorem run_results (hty : TysOk P ty) (hw : HRel N ε H w) (hf : FRel ε n T a) {F : Func} {l : List IV} (h : results1 ty T H F.results.toList = some l) :
    (results F a.tmps).run P w = .ok (den ε (tupled l)) w ∧ ok ε (tupled l) := by
  have h1 := results_den (P := P) hty hw hf _ _ h
  have hm : (F.results.mapM (resOne a)).run P w = .ok (dens ε l).toArray w := by
    rw [Array.mapM_eq_mapM_toList, map_eq_pure_bind, Sem.run_bind, h1.1]
    rfl
  have hr : results F a.tmps = (do let vs ← F.results.mapM (resOne a); pure (if h : vs.size = 1 then vs[0] else .tuple vs)) := by
    unfold results
    congr 1
  rw [hr]
  simp only [Sem.run_bind, hm, Result.andThen_ok, Sem.run_pure]
  match l, h1.2 with
  | [], hok => exact ⟨rfl, trivial⟩
  | [v], hok => exact ⟨rfl, hok.1⟩
  | v :: u :: l, hok =>
    refine ⟨?_, hok⟩
    simp [dens, tupled, den]

include hty in
theorem sim_callIn (hexec : ExecOk P G r) {f : FuncId} {fn : IFn} (hfn : FnOk P f fn) {args : List IV} {v : IV} {H' : IH} (hw : Rel G N ε H w) (hargs : oks ε args) (h : icallIn ty r args H fn = some (v, H')) :
    Known P f ∧ Calls P f (dens ε args).toArray w (Gives N ε H w v H') := by
  obtain ⟨F, hF, hb, hn, hres, hname⟩ := hfn.ex
  refine ⟨⟨F, fn.body, hF, hb, hname⟩, ?_⟩
  unfold icallIn at h
  cases hle : Nat.ble args.length fn.ntmps with
  | false => simp [hle] at h
  | true =>
    have hle' := Nat.le_of_ble_eq_true hle
    simp only [hle, cond_true, Option.bind_eq_some_iff] at h
    obtain ⟨⟨x, T1, H1⟩, h1, h⟩ := h
    refine calls_of_wp hF hb ?_
    rw [hn]
    refine hexec fn.ntmps fn.body _ H x T1 H1 h1 N ε _ w hw (enter_rel hargs hle') _ fun ε1 a1 w1 hf1 hst1 => ?_
    unfold callK at h
    have key : (results1 ty T1 H1 fn.results).map (fun l => (tupled l, H1)) = some (v, H') → a1.defers = [] ∧ ∃ u, (results F a1.tmps).run P w1 = .ok u w1 ∧ Gives N ε H w v H' (.returned u) w1 := by
      intro h
      simp only [Option.map_eq_some_iff, Prod.mk.injEq] at h
      obtain ⟨l, hl, rfl, rfl⟩ := h
      rw [← hres] at hl
      have h2 := run_results (P := P) hty hst1.rel hf1 hl
      exact ⟨hf1.defers, _, h2.1, ε1, rfl, h2.2, hst1⟩
    cases x with
    | normal => exact key h
    | ret => exact key h
    | exit id => cases h

/-- Answers that are known. -/
def OrcOk (P : Program) (G : Tr (List IV)) (orc : FuncId → List IV → Option IV) : Prop :=
  ∀ (N : Nat) (ε : Env) (H : IH) (w : World) (f : FuncId) (args : List IV) (v : IV), Rel G N ε H w → oks ε args → orc f args = some v →
    Known P f ∧ Calls P f (dens ε args).toArray w (Gives N ε H w v H)

theorem run_succ (ty : TypeId → Option TI) (fns : FuncId → Option IFn) (orc : FuncId → List IV → Option IV) (k : Nat) : run ty fns orc (k + 1) = Fns.next ty fns orc (run ty fns orc k) := rfl

include hty in
theorem sim_run {fns : FuncId → Option IFn} (hfns : ∀ f fn, fns f = some fn → FnOk P f fn) {orc : FuncId → List IV → Option IV} (horc : OrcOk P G orc)
    (hdr : ∀ r, CallOk P G r → DrawnOk P G ty r) : ∀ k, CallOk P G (run ty fns orc k) ∧ ExecOk P G (run ty fns orc k) ∧ LoopOk P G (run ty fns orc k) k
  | 0 => by
    refine ⟨fun N ε H w f args v H' _ _ h => ?_, fun n c T H x T' H' h => ?_, fun n c T H x T' H' h => ?_⟩
    · exact nomatch (show (none : Option (IV × IH)) = some (v, H') from h)
    · exact nomatch (show (none : Option (IExit × TM × IH)) = some (x, T', H') from h)
    · exact nomatch (show (none : Option (IExit × TM × IH)) = some (x, T', H') from h)
  | k + 1 => by
    obtain ⟨h1, h2, h3⟩ := sim_run hfns horc hdr k
    rw [run_succ]
    refine ⟨fun N ε H w f args v H' hw hargs h => ?_, fun n c T H x T' H' h => (sim_exec hty h1 h2 (hdr _ h1) h3 n c T H x T' H' h).1,
      fun n c T H x T' H' h => (sim_exec hty h1 h2 (hdr _ h1) h3 n (.loop c) T H x T' H' h).2 c rfl⟩
    have h : orCall ty fns (run ty fns orc k) orc f args H = some (v, H') := h
    unfold orCall at h
    split at h
    · rename_i u hu
      cases h
      exact horc N ε H w f args _ hw hargs hu
    · simp only [Option.bind_eq_some_iff] at h
      obtain ⟨fn, hfn, h⟩ := h
      exact sim_callIn hty h2 (hfns f fn hfn) hw hargs h
end
end Go.Proofs.YtpppmgfiidlfjaaGreatDoor.Sim
