/-
  Code, rounds, ranges over functions, calls and the whole machine are simulated.
-/
import Derived.Test.YtpppmgfiidlfjaaGreatDoorSuK
import Derived.LoopNIn
import Derived.TacticsIn
import Derived.OrdersIn
import Derived.RangeFuncRecord
import Derived.Scope
set_option linter.unusedSimpArgs false
set_option linter.unusedVariables false
set_option linter.unusedSectionVars false
namespace Go.Proofs.YtpppmgfiidlfjaaGreatDoor.Sim
section
variable {P : Program} {G : Tr (List IV)} {N : Nat} {ε ε' : Env} {H : IH} {w : World} {n : Nat} {T : TM} {a : Act}

theorem at_set (T : TM) (d t : Nat) (v : IV) : TM.at (Tr.set v (bits d) T) t = if d = t then v else T.at t := by
  unfold TM.at
  rw [get_set]
  split <;> rfl

theorem FRel.step {B : Nat} {H' : IH} {w' : World} (h : FRel B ε H w n T a) (s : Step N ε H w ε' H' w') : FRel B ε' H' w' n T a :=
  ⟨h.size, Nat.le_trans h.base s.size, h.defers.step s, fun t => by
    have h1 := h.at_ t
    have h2 := den_ext s.ext _ h1.2
    exact ⟨by rw [h2.1]; exact h1.1, h2.2⟩⟩

theorem put_defers {dst : Option Tmp} {v : Value} : (a.put dst v).defers = a.defers := by cases dst <;> rfl

theorem FRel.put {B : Nat} (h : FRel B ε H w n T a) {dst : Option Tmp} {v : IV} {T' : TM} (hp : putT n dst v T = some T') (hv : ok ε v) : FRel B ε H w n T' (a.put dst (den ε v)) := by
  cases dst with
  | none => simp only [putT, Option.some.injEq] at hp; subst hp; exact h
  | some d =>
    simp only [putT] at hp
    cases hb : Nat.blt d n with
    | false => simp [hb] at hp
    | true =>
      simp only [hb, cond_true, Option.some.injEq] at hp
      subst hp
      have hd := blt_iff.1 hb
      refine ⟨by simp [Act.put, h.size], h.base, by rw [put_defers]; exact h.defers, fun t => ?_⟩
      rw [at_set]
      by_cases e : d = t
      · subst e
        have : d < a.tmps.size := by rw [h.size]; exact hd
        rw [if_pos rfl]
        refine ⟨?_, hv⟩
        simp [Act.put, this]
      · rw [if_neg e]
        have h1 := h.at_ t
        refine ⟨?_, h1.2⟩
        rw [← h1.1]
        simp [Act.put, Array.getElem?_setIfInBounds_ne e]

theorem FRel.sees {B : Nat} (h : FRel B ε H w n T a) (o : Op) : SeesOp ε T a o := fun _ _ t _ => h.at_ t

theorem wanted_eq {ops : Array Oper} {o : Oper} (h : ∀ j want d, o.guard = some (j, want) → (ops[j]?).bind (·.dst) = some d → SeesT ε T a d) :
    Region.wanted o (yielded ops a.tmps) = isWanted T ops.toList o := by
  unfold Region.wanted isWanted
  cases hg : o.guard with
  | none => rfl
  | some gw =>
    obtain ⟨j, want⟩ := gw
    simp only [yielded, Array.getElem?_toList]
    cases hd : (ops[j]?).bind (·.dst) with
    | none => simp
    | some d =>
      obtain ⟨h1, h2⟩ := h j want d hg hd
      simp only [Option.bind_some]
      have key : ∀ b : Bool, a.tmps[d]? = some (.bool b) ↔ T.at d = .b b := by
        intro b
        constructor
        · intro e
          have : a.tmps.getD d undef = .bool b := by simp [e]
          rw [h1] at this
          cases hv : T.at d with
          | b x => rw [hv] at this; simpa [den] using this
          | p k o => rw [hv] at this h2; obtain ⟨L, hL⟩ := h2; simp [den, hL] at this
          | sl k o len cap ex sz => rw [hv] at this h2; obtain ⟨L, hL, _⟩ := h2; simp [den, hL] at this
          | m k => rw [hv] at this h2; obtain ⟨L, hL⟩ := h2; simp [den, hL] at this
          | yl k => rw [hv] at this h2; obtain ⟨L, hL⟩ := h2; simp [den, hL] at this
          | _ => rw [hv] at this; simp [den] at this
        · intro e
          rw [e] at h1
          cases hx : a.tmps[d]? with
          | none => simp [hx, den, undef] at h1
          | some x => simp [hx, den] at h1; rw [h1]
      cases hv : T.at d with
      | b x => rw [(key x).2 hv]; simp
      | _ =>
        cases hx : a.tmps[d]? with
        | none => simp
        | some y =>
          cases y with
          | bool b => have := (key b).1 hx; rw [hv] at this; cases this
          | _ => simp

theorem FRel.wanted {B : Nat} (h : FRel B ε H w n T a) (ops : Array Oper) (o : Oper) : Region.wanted o (yielded ops a.tmps) = isWanted T ops.toList o := wanted_eq fun _ _ d _ _ => h.at_ d

variable {ty : TypeId → Option TI} (hty : TysOk P ty) {r : Fns}

/-- The wide fence, in a plain frame or in a round's. -/
def Fw (ro : Option Nat) : Fence := { Fence.wide with round := ro }

theorem iop_noDefer {ty : TypeId → Option TI} {r : Fns} {T : TM} {H : IH} {o : Op} {x : IV × IH} (h : iop ty r T H o = some x) (c : Call) : o ≠ .defer c := by
  rintro rfl
  simp [iop] at h

theorem Does.wpIn {v : IV} {H' : IH} {o : Oper} (h : Does P N ε H w v H' a o) (hd : ∀ c, o.op ≠ .defer c) (ro : Option Nat) (m : Nat) (K : Act → World → Prop) (Q : Exit → Act → World → Prop)
    (hk : ∀ ε' w', ok ε' v → Step N ε H w ε' H' w' → K (a.put o.dst (den ε' v)) w') : o.wpIn (Fw ro) m P a w K Q := by
  refine ⟨fun _ _ => trivial, ?_⟩
  rw [Oper.semAt_eq (Fw ro).round a.eval o hd]
  rcases h with ⟨ε', w', hr, hv, hs⟩ | ⟨ε', w', hr, rfl, hs⟩ | ⟨f, args, hr, hc⟩ | ⟨l, f, tmps, assign, body, hr, hc⟩
  · rw [hr]; exact hk ε' w' hv hs
  · rw [hr]; exact hk ε' w' trivial hs
  · rw [hr, Oper.uponIn_enter]
    refine ⟨fun h => (by cases h), ?_⟩
    refine (callsIn_wide (n := m - 1)).2 (Calls.mono hc fun e w' he => ?_)
    cases e with
    | returned u => obtain ⟨ε', rfl, h1, h2⟩ := he; exact hk ε' w' h1 h2
    | panicked _ => exact he.elim
    | outgrown => exact he.elim
  · rw [hr, Oper.uponIn_round]
    refine ⟨fun h => (by cases h), hc.1, fun c cs _ => ?_⟩
    obtain ⟨e, w', he, hs⟩ := hc.2 c cs (room_wide _)
    refine ⟨e, w', ?_, hs⟩
    cases e with
    | returned u => obtain ⟨ε', rfl, h1, h2⟩ := he; exact hk ε' w' h1 h2
    | panicked _ => exact he.elim
    | outgrown => exact he.elim

theorem iops_cons (ty : TypeId → Option TI) (r : Fns) (n : Nat) (all : List Oper) (o : Oper) (l : List Oper) (T : TM) (H : IH) :
    iops ty r n all (o :: l) T H = opOne ty r n all o (iops ty r n all l) T H := rfl

include hty in
theorem sim_iops (hcall : CallOk P G r) (ro : Option Nat) {B : Nat} {ops : Array Oper} {Q : Exit → Act → World → Prop} : ∀ (l : List Oper) (ε : Env) (T : TM) (H : IH) (a : Act) (w : World) (T' : TM) (H' : IH),
    Rel G N ε H w → FRel B ε H w n T a → iops ty r n ops.toList l T H = some (T', H') → (∀ ε' a' w', FRel B ε' H' w' n T' a' → Step N ε H w ε' H' w' → Q .normal a' w') → wpListIn (Fw ro) 1 P ops Q l a w
  | [], ε, T, H, a, w, T', H', hw, hf, h, hq => by
    have h : some (T, H) = some (T', H') := h
    cases h
    exact hq ε a w hf (Step.refl hw.rel)
  | o :: l, ε, T, H, a, w, T', H', hw, hf, h, hq => by
    rw [iops_cons, opOne] at h
    rw [wpListIn, hf.wanted]
    cases hwant : isWanted T ops.toList o with
    | false =>
      simp only [hwant, cond_false, Option.bind_eq_some_iff] at h
      obtain ⟨T1, hp, h⟩ := h
      simp only [Bool.false_eq_true, if_false]
      exact ⟨fun _ _ => trivial, sim_iops hcall ro l ε T1 H _ w T' H' hw (hf.put hp trivial) h hq⟩
    | true =>
      simp only [hwant, cond_true, Option.bind_eq_some_iff] at h
      obtain ⟨⟨v, H1⟩, hop, T1, hp, h⟩ := h
      simp only [if_true]
      refine (sim_iop hty hw (hf.sees o.op) hcall hop).wpIn (iop_noDefer hop) ro 1 _ Q fun ε1 w1 hv hst => ?_
      exact sim_iops hcall ro l ε1 T1 H1 _ w1 T' H' (hw.step hst) ((hf.step hst).put hp hv) h fun ε' a' w' h1 h2 => hq ε' a' w' h1 (hst.trans h2)

def toExit : IExit → Exit
  | .normal => .normal
  | .exit id => .exit id
  | .ret => .ret

/-- What is said of code. -/
def CodeOk (P : Program) (G : Tr (List IV)) (n : Nat) (c : Code) (T : TM) (H : IH) (x : IExit) (T' : TM) (H' : IH) : Prop :=
  ∀ (ro : Option Nat) (N B : Nat) (ε : Env) (a : Act) (w : World), (ro = none ∨ noRange c = true) → Rel G N ε H w → FRel B ε H w n T a → ∀ (Q : Exit → Act → World → Prop), (∀ ε' a' w', FRel B ε' H' w' n T' a' → Step N ε H w ε' H' w' → Q (toExit x) a' w') → c.wpIn (Fw ro) 1 P Q a w

def ExecOk (P : Program) (G : Tr (List IV)) (r : Fns) : Prop :=
  ∀ (n : Nat) (c : Code) (T : TM) (H : IH) (x : IExit) (T' : TM) (H' : IH), r.exec n c T H = some (x, T', H') → CodeOk P G n c T H x T' H'

def LoopOk (P : Program) (G : Tr (List IV)) (r : Fns) (k : Nat) : Prop :=
  ∀ (n : Nat) (c : Code) (T : TM) (H : IH) (x : IExit) (T' : TM) (H' : IH), r.exec n (.loop c) T H = some (x, T', H') → ∀ (ro : Option Nat) (N B : Nat) (ε : Env) (a : Act) (w : World), (ro = none ∨ noRange c = true) → Rel G N ε H w → FRel B ε H w n T a → ∀ (Q : Exit → Act → World → Prop), (∀ ε' a' w', FRel B ε' H' w' n T' a' → Step N ε H w ε' H' w' → Q (toExit x) a' w') → Code.roundsIn (Fw ro) 1 P c Q k a w

def DrawnOk (P : Program) (G : Tr (List IV)) (ty : TypeId → Option TI) (r : Fns) : Prop :=
  ∀ (n : Nat) (id : Nat) (ops : Array Oper) (T : TM) (H : IH) (T' : TM) (H' : IH), idrawn ty r n ops.toList T H = some (T', H') → CodeOk P G n (.region id ops true) T H .normal T' H'

theorem Rel.step' {ε ε' : Env} {H H' : IH} {w w' : World} (h : Rel G N ε H w) (s : Step N ε H w ε' H' w') : Rel G N ε' H' w' := h.step s

/- A range over a function. -/
theorem stepR_scope {b : Frame} {a : Act} {k : List Item} {cs : List Frame} {w : World} {c : Code} : step P (lone (b.atR a (.code (.scope c) :: k)) cs w) = .next (lone (b.atR a (.code c :: .inScope c :: k)) cs w) :=
  step_lone_go (by simp [stepG, stepG.exec, Frame.atR])
theorem stepR_inScope {b : Frame} {a : Act} {k : List Item} {cs : List Frame} {w : World} {c : Code} : step P (lone (b.atR a (.inScope c :: k)) cs w) = .next (lone (b.atR a k) cs w) :=
  step_lone_go (by simp [stepG, stepG.exec, Frame.atR])

theorem wpIn_scope {F : Fence} {m : Nat} {Q : Exit → Act → World → Prop} {c : Code} (h : c.wpIn F m P (Exit.noGoto Q) a w) : (Code.scope c).wpIn F m P Q a w := by
  intro b k cs hro hb hr
  have h0 : (lone (b.atR a (.code (.scope c) :: k)) cs w).fenced P F := fenced_calm hb hr rfl
  obtain ⟨e, a₁, w₁, hq, harr⟩ := h b (.inScope c :: k) cs hro hb hr
  cases e with
  | normal => exact ⟨.normal, a₁, w₁, hq, .head h0 stepR_scope (StepsIn.trans harr (.one (fenced_calm hb hr rfl) stepR_inScope))⟩
  | exit id =>
    have hx : exitTo id (.inScope c :: k) = exitTo id k := by simp [exitTo]
    exact ⟨_, a₁, w₁, hq, fun k' hk => .head h0 stepR_scope (harr.1 k' (by rw [hx]; exact hk)),
      fun hr' hk => let ⟨k₁, h1, h2⟩ := harr.2 hr' (by rw [hx]; exact hk); ⟨k₁, h1, .head h0 stepR_scope h2⟩⟩
  | goto l => exact hq.elim
  | ret => exact ⟨_, a₁, w₁, hq, .of_steps (.one h0 stepR_scope) harr⟩
  | panic ch => exact ⟨_, a₁, w₁, hq, .of_steps (.one h0 stepR_scope) harr⟩
  | outgrown => exact ⟨_, a₁, w₁, hq, .of_steps (.one h0 stepR_scope) harr⟩

/-- A block that the ideal heap knows nothing of. -/
theorem Step.real (h : HRel N ε H w) (o : Obj) : Step N ε H w ε H (grow w o) where
  ext _ _ h := h
  new _ h := absurd rfl h
  nx := Nat.le_refl _
  rel := h.move (fun _ _ h => h) (fun _ _ => rfl) (by simp [grow]) (fun b hb => by
    rw [grow_get, if_neg]
    rcases hb with hb | hb
    · have := h.base; omega
    · have := h.own_lt hb; omega)
  size := by simp [grow]
  frame b hb _ := by rw [grow_get, if_neg (by omega)]
  own _ h := .inl h
  os := rfl
  tape := rfl
  output := rfl
  gl := rfl

theorem DefOk.lt {B : Nat} : ∀ {ds : List Deferred} {b : Nat} {d : Deferred}, DefOk B ε H w ds → d ∈ ds → d.target = .collected b → b < w.heap.size
  | [], _, _, _, hm, _ => by cases hm
  | d :: ds, b, d', h, hm, hb => by
    obtain ⟨⟨b', h1, h2, h3, h4, h5⟩, h6⟩ := h
    rcases List.mem_cons.1 hm with rfl | hm
    · rw [h1] at hb
      cases hb
      exact (Array.getElem?_eq_some_iff.1 h3).1
    · exact DefOk.lt h6 hm hb

theorem pendI_some {j : Option Code} {x : IExit} (h : pendI j = some x) : (j = none ∧ x = .normal) ∨ (∃ id, j = some (.exit id) ∧ x = .exit id) ∨ (j = some .ret ∧ x = .ret) := by
  unfold pendI at h
  split at h <;> cases h
  · exact .inl ⟨rfl, rfl⟩
  · exact .inr (.inl ⟨_, rfl, rfl⟩)
  · exact .inr (.inr ⟨rfl, rfl⟩)

theorem sim_range (hcall : CallOk P G r) {g : Operand} {ps : Array Tmp} {assign body : Code} {gv : IV} {x : IExit} {T' : TM} {H' : IH} (hgv : evalO T g = some gv)
    (h : irange r n T H ps.toList assign body gv = some (x, T', H')) (N B : Nat) (ε : Env) (a : Act) (w : World) (hw : Rel G N ε H w) (hf : FRel B ε H w n T a)
    (Q : Exit → Act → World → Prop) (hq : ∀ ε' a' w', FRel B ε' H' w' n T' a' → Step N ε H w ε' H' w' → Q (toExit x) a' w') : (Code.rangeFunc g ps assign body).wpIn (Fw none) 1 P Q a w := by
  have e1 := evalO_den (a := a) (ε := ε) (fun t _ => hf.at_ t) hgv
  unfold irange at h
  split at h
  · rename_i f first cap
    simp only [Option.bind_eq_some_iff] at h
    obtain ⟨⟨v, H2⟩, h1, h⟩ := h
    refine wpIn_rangeFunc fun fn _ => ?_
    let dfr : Nat := w.heap.size
    let rec0 : Loop := { state := .ready, pending := none, fn, tmps := a.tmps, params := ps, assign, body, defers := dfr }
    let w0 := grow w (.deferred (some []))
    let w1 := grow w0 (.loop rec0)
    let ε1 := upd ε H.nx ⟨w0.heap.size, 0, 0⟩
    let H1 := H.new (.loop ⟨n, T, ps.toList, assign, body, .ready, none⟩)
    have st0 : Step N ε H w ε H w0 := Step.real hw.rel _
    have hw0 := hw.step st0
    have st1 : Step N ε H w0 ε1 H1 w1 := Step.allocOther hw0.rel (hw0.fresh _ (Nat.le_refl _)) _ rfl _ ⟨rec0, rfl, ⟨rfl, rfl, hf.size, hf.at_, rfl, rfl, rfl⟩⟩
    have st := st0.trans st1
    have hw1 := hw.step st
    have hε1 : ε1 H.nx = some ⟨w0.heap.size, 0, 0⟩ := by simp [ε1, upd]
    have hsz : w0.heap.size = w.heap.size + 1 := by simp [w0, grow]
    have hnown : ¬ Own ε1 H1 dfr := fun ho => by
      rcases st1.own _ ho with h | h
      · have h7 := hw.rel.own_lt h
        exact absurd h7 (Nat.lt_irrefl _)
      · have h7 : w0.heap.size ≤ w.heap.size := h
        rw [hsz] at h7
        omega
    have hblk : w1.heap[dfr]? = some (.deferred (some [])) := by
      simp only [w1, grow_get, hsz]
      rw [if_neg (by simp [dfr])]
      simp [w0, grow_get, dfr]
    have hd1 : DefOk B ε1 H1 w1 ([{ target := .collected dfr, args := #[] }] ++ a.defers) := by
      refine ⟨⟨dfr, rfl, hf.base, hblk, hnown, fun d' hd' e => ?_⟩, hf.defers.step st⟩
      have := DefOk.lt hf.defers hd' e
      simp [dfr] at this
    have hf1 : FRel B ε1 H1 w1 n T { a with defers := [{ target := .collected dfr, args := #[] }] ++ a.defers } :=
      ⟨hf.size, Nat.le_trans hf.base st.size, hd1, (hf.step st).at_⟩
    have e2 := den_ext st.ext _ e1.2
    have hok2 : ok ε1 (.fn (.func f) first cap) := e2.2
    have hargs : oks ε1 (first ++ [.yl H.nx] ++ cap) := oks_append (oks_append hok2.1 ⟨⟨_, hε1⟩, trivial⟩) hok2.2
    obtain ⟨⟨F, bodyF, hF, hb, hn⟩, hcalls⟩ := hcall.calls N ε1 H1 w1 f _ v H2 hw1 hargs h1
    have hgval : a.eval g = .func (.func f) (dens ε1 first).toArray (dens ε1 cap).toArray := by rw [e1.1, ← e2.1]; rfl
    refine ⟨dfr + 1, _, w1, { target := .fn (.func f) (dens ε1 cap).toArray, args := (dens ε1 first).toArray ++ #[.func (.yield (dfr + 1)) #[] #[]] }, w1, f, (dens ε1 (first ++ [.yl H.nx] ++ cap)).toArray, w1, run_enterLoop_outer fn a.tmps ps assign body, ?_, fun _ _ => trivial, ?_, fun h => (by cases h), ?_⟩
    · have hc0 : a.eval (.const (.func (.yield (dfr + 1)) #[] #[])) = .func (.yield (dfr + 1)) #[] #[] := rfl
      show (resolve a.eval { callee := .value g, args := #[.const (.func (.yield (dfr + 1)) #[] #[])], argTypes := #[] } 0).run P w1 = _
      simp only [resolve, hgval, Deferred.ofValue, List.map_toArray, List.map_cons, List.map_nil, hc0, Sem.run_pure, Sem.run_bind, Result.andThen_ok]
    · have hd : (dens ε1 (first ++ [.yl H.nx] ++ cap)).toArray = (dens ε1 first).toArray ++ #[.func (.yield (dfr + 1)) #[] #[]] ++ (dens ε1 cap).toArray := by
        apply Array.ext'
        simp [dens_map, den, hε1, hsz, dfr]
      simp only [invoke, callFunc, Sem.run_bind, run_program, Result.andThen_ok, hF, hn, hb, Option.isNone_some, Bool.false_eq_true, if_false, Sem.run_pure, hd]
    · refine (callsIn_wide (n := 0)).2 (Calls.mono hcalls fun e w3 he => ?_)
      cases e with
      | panicked _ => exact he.elim
      | outgrown => exact he.elim
      | returned u =>
        obtain ⟨ε3, _, _, st3⟩ := he
        have hw3 := hw1.step st3
        simp only [endLoopI, Option.bind_eq_some_iff] at h
        obtain ⟨ob, hob, h⟩ := h
        split at h
        · rename_i L
          have hε3 : ε3 H.nx = some ⟨w0.heap.size, 0, 0⟩ := st3.ext _ _ hε1
          obtain ⟨_, R, hR, R', rfl, hrel⟩ := hw3.rel.others _ _ _ hob rfl hε3
          have hst : L.state ≠ .busy := fun e => by rw [e] at h; cases h
          have h' : (pendI L.pending).map (fun e => (e, T, H2.put H.nx (.loop { L with state := .exhausted }))) = some (x, T', H') := by
            split at h
            · cases h
            · exact h
          simp only [Option.map_eq_some_iff, Prod.mk.injEq] at h'
          obtain ⟨x', hx', rfl, rfl, rfl⟩ := h'
          have hend := run_endLoop (P := P) (w := w3) (l := dfr + 1) (r := R') (by rw [← hsz]; exact hR) (by rw [hrel.state]; exact hst)
          have st4 : Step N ε3 H2 w3 ε3 (H2.put H.nx (.loop { L with state := .exhausted })) (w3.putObj (dfr + 1) (.loop { R' with state := .exhausted })) := by
            have := Step.otherPut hw3.rel hob rfl hε3 (.loop { L with state := .exhausted }) rfl (.loop { R' with state := .exhausted }) ⟨_, rfl, ⟨rfl, hrel.pending, hrel.size, hrel.at_, hrel.params, hrel.assign, hrel.body⟩⟩
            rw [hsz] at this
            exact this
          have hfin := (hf1.step st3).step st4
          have hq' := hq _ _ _ hfin (st.trans (st3.trans st4))
          rcases pendI_some hx' with ⟨e, rfl⟩ | ⟨id, e, rfl⟩ | ⟨e, rfl⟩
          · exact ⟨none, _, hend.trans (congrArg (fun j => Result.ok j _) (hrel.pending.trans e)), hq'⟩
          · exact ⟨some (.exit id), _, hend.trans (congrArg (fun j => Result.ok j _) (hrel.pending.trans e)), wpIn_exit hq'⟩
          · exact ⟨some .ret, _, hend.trans (congrArg (fun j => Result.ok j _) (hrel.pending.trans e)), wpIn_ret hq'⟩
        · cases h
  · cases h

include hty in
theorem sim_exec (hcall : CallOk P G r) (hexec : ExecOk P G r) (hdrawn : DrawnOk P G ty r) {k : Nat} (hloop : LoopOk P G r k) :
    ∀ (n : Nat) (c : Code) (T : TM) (H : IH) (x : IExit) (T' : TM) (H' : IH), iexec ty r n c T H = some (x, T', H') → CodeOk P G n c T H x T' H' ∧
      (∀ c', c = .loop c' → ∀ (ro : Option Nat) (N B : Nat) (ε : Env) (a : Act) (w : World), (ro = none ∨ noRange c = true) → Rel G N ε H w → FRel B ε H w n T a → ∀ (Q : Exit → Act → World → Prop), (∀ ε' a' w', FRel B ε' H' w' n T' a' → Step N ε H w ε' H' w' → Q (toExit x) a' w') → Code.roundsIn (Fw ro) 1 P c' Q (k + 1) a w) := by
  intro n c T H x T' H' h
  have noloop : ∀ {p : Prop}, (∀ c', c ≠ .loop c') → (∀ c', c = .loop c' → p) := fun hn c' e => absurd e (hn c')
  unfold iexec at h
  split at h
  · cases h
    refine ⟨fun ro N B ε a w _ hw hf Q hq => wpIn_skip (hq ε a w hf (Step.refl hw.rel)), fun c' e => by cases e⟩
  · cases h
    refine ⟨fun ro N B ε a w _ hw hf Q hq => wpIn_label (hq ε a w hf (Step.refl hw.rel)), fun c' e => by cases e⟩
  · rename_i id ops
    simp only [Option.map_eq_some_iff, Prod.mk.injEq] at h
    obtain ⟨⟨T1, H1⟩, h, rfl, rfl, rfl⟩ := h
    exact ⟨hdrawn n id ops T H T1 H1 h, fun c' e => by cases e⟩
  · rename_i id ops
    simp only [Option.map_eq_some_iff, Prod.mk.injEq] at h
    obtain ⟨⟨T1, H1⟩, h, rfl, rfl, rfl⟩ := h
    refine ⟨fun ro N B ε a w _ hw hf Q hq => wpIn_region_list (sim_iops hty hcall ro _ ε T H a w T1 H1 hw hf h hq), fun c' e => by cases e⟩
  · rename_i c1 c2
    simp only [Option.bind_eq_some_iff] at h
    obtain ⟨⟨x1, T1, H1⟩, h1, h⟩ := h
    refine ⟨fun ro N B ε a w hro hw hf Q hq => wpIn_seq (hexec n c1 T H x1 T1 H1 h1 ro N B ε a w (hro.imp id fun h => (Bool.and_eq_true_iff.1 h).1) hw hf _ fun ε1 a1 w1 hf1 hst1 => ?_), fun c' e => by cases e⟩
    unfold seqK at h
    cases x1 with
    | normal => exact hexec n c2 T1 H1 x T' H' h ro N B ε1 a1 w1 (hro.imp id fun h => (Bool.and_eq_true_iff.1 h).2) (hw.step hst1) hf1 Q fun ε2 a2 w2 hf2 hst2 => hq ε2 a2 w2 hf2 (hst1.trans hst2)
    | exit id => cases h; exact hq ε1 a1 w1 hf1 hst1
    | ret => cases h; exact hq ε1 a1 w1 hf1 hst1
  · rename_i co c1 c2
    simp only [Option.bind_eq_some_iff] at h
    obtain ⟨cv, hcv, h⟩ := h
    refine ⟨fun ro N B ε a w hro hw hf Q hq => ?_, fun c' e => by cases e⟩
    have e1 := evalO_den (a := a) (ε := ε) (fun t _ => hf.at_ t) hcv
    cases cv <;> simp only [condK, reduceCtorEq] at h
    rename_i b
    cases b with
    | true =>
      simp only [cond_true] at h
      exact wpIn_cond_true (by rw [e1.1]; rfl) (hexec n c1 T H x T' H' h ro N B ε a w (hro.imp id fun h => (Bool.and_eq_true_iff.1 h).1) hw hf Q hq)
    | false =>
      simp only [cond_false] at h
      exact wpIn_cond_false (by rw [e1.1]; rfl) (hexec n c2 T H x T' H' h ro N B ε a w (hro.imp id fun h => (Bool.and_eq_true_iff.1 h).2) hw hf Q hq)
  · rename_i id c1
    simp only [Option.bind_eq_some_iff] at h
    obtain ⟨⟨x1, T1, H1⟩, h1, h⟩ := h
    refine ⟨fun ro N B ε a w hro hw hf Q hq => wpIn_block (hexec n c1 T H x1 T1 H1 h1 ro N B ε a w hro hw hf _ fun ε1 a1 w1 hf1 hst1 => ?_), fun c' e => by cases e⟩
    unfold blockK at h
    cases x1 with
    | normal => cases h; exact hq ε1 a1 w1 hf1 hst1
    | ret => cases h; exact hq ε1 a1 w1 hf1 hst1
    | exit id' =>
      simp only [toExit, Exit.inBlock]
      cases hb : Nat.beq id' id with
      | true =>
        have := Nat.eq_of_beq_eq_true hb
        simp only [hb, cond_true, Option.some.injEq, Prod.mk.injEq] at h
        obtain ⟨rfl, rfl, rfl⟩ := h
        rw [if_pos this]
        exact hq ε1 a1 w1 hf1 hst1
      | false =>
        have := Nat.ne_of_beq_eq_false hb
        simp only [hb, cond_false, Option.some.injEq, Prod.mk.injEq] at h
        obtain ⟨rfl, rfl, rfl⟩ := h
        rw [if_neg this]
        exact hq ε1 a1 w1 hf1 hst1
  · rename_i c1
    simp only [Option.bind_eq_some_iff] at h
    obtain ⟨⟨x1, T1, H1⟩, h1, h⟩ := h
    have key : ∀ (ro : Option Nat) (N B : Nat) (ε : Env) (a : Act) (w : World), (ro = none ∨ noRange c1 = true) → Rel G N ε H w → FRel B ε H w n T a → ∀ (Q : Exit → Act → World → Prop), (∀ ε' a' w', FRel B ε' H' w' n T' a' → Step N ε H w ε' H' w' → Q (toExit x) a' w') → Code.roundsIn (Fw ro) 1 P c1 Q (k + 1) a w := by
      intro ro N B ε a w hro hw hf Q hq
      rw [roundsIn_succ]
      refine hexec n c1 T H x1 T1 H1 h1 ro N B ε a w hro hw hf _ fun ε1 a1 w1 hf1 hst1 => ?_
      unfold seqK at h
      cases x1 with
      | normal => exact hloop n c1 T1 H1 x T' H' h ro N B ε1 a1 w1 hro (hw.step hst1) hf1 Q fun ε2 a2 w2 hf2 hst2 => hq ε2 a2 w2 hf2 (hst1.trans hst2)
      | exit id => cases h; exact hq ε1 a1 w1 hf1 hst1
      | ret => cases h; exact hq ε1 a1 w1 hf1 hst1
    exact ⟨fun ro N B ε a w hro hw hf Q hq => wpIn_loop_rounds (k + 1) (key ro N B ε a w hro hw hf Q hq), fun c' e => by cases e; exact key⟩
  · cases h
    refine ⟨fun ro N B ε a w _ hw hf Q hq => wpIn_exit (hq ε a w hf (Step.refl hw.rel)), fun c' e => by cases e⟩
  · cases h
    refine ⟨fun ro N B ε a w _ hw hf Q hq => wpIn_ret (hq ε a w hf (Step.refl hw.rel)), fun c' e => by cases e⟩
  · rename_i c1
    refine ⟨fun ro N B ε a w hro hw hf Q hq => wpIn_scope (hexec n c1 T H x T' H' h ro N B ε a w hro hw hf _ fun ε1 a1 w1 hf1 hst1 => ?_), fun c' e => by cases e⟩
    cases x <;> exact hq ε1 a1 w1 hf1 hst1
  · rename_i g ps assign body
    simp only [Option.bind_eq_some_iff] at h
    obtain ⟨gv, hgv, h⟩ := h
    refine ⟨fun ro N B ε a w hro hw hf Q hq => ?_, fun c' e => by cases e⟩
    rcases hro with rfl | hro
    · exact sim_range hcall hgv h N B ε a w hw hf Q hq
    · cases hro
  · cases h

/- Rounds. -/
theorem setParams_nil (n : Nat) (l : List IV) (T : TM) : setParams [] l n T = (match l with | [] => some T | _ => none) := rfl
theorem setParams_cons (p : Tmp) (ps : List Tmp) (l : List IV) (n : Nat) (T : TM) : setParams (p :: ps) l n T = (match l with | v :: l => bif Nat.blt p n then setParams ps l n (Tr.set v (bits p) T) else none | [] => none) := rfl

theorem setParams_rel : ∀ (ps : List Tmp) (args : List IV) (T T' : TM) (tmps : Array Value), setParams ps args n T = some T' → oks ε args → tmps.size = n →
    (∀ t, tmps.getD t undef = den ε (T.at t) ∧ ok ε (T.at t)) →
    ps.length = args.length ∧ ((ps.zip (dens ε args)).foldl (fun tmps (x : Tmp × Value) => tmps.setIfInBounds x.1 x.2) tmps).size = n ∧
      ∀ t, ((ps.zip (dens ε args)).foldl (fun tmps (x : Tmp × Value) => tmps.setIfInBounds x.1 x.2) tmps).getD t undef = den ε (T'.at t) ∧ ok ε (T'.at t)
  | [], [], T, T', tmps, h, _, hs, ha => by
    have h : some T = some T' := h
    cases h
    exact ⟨rfl, hs, ha⟩
  | [], _ :: _, T, T', tmps, h, _, hs, ha => by cases h
  | _ :: _, [], T, T', tmps, h, _, hs, ha => by cases h
  | p :: ps, v :: args, T, T', tmps, h, hok, hs, ha => by
    rw [setParams_cons] at h
    simp only at h
    cases hb : Nat.blt p n with
    | false => simp [hb] at h
    | true =>
      simp only [hb, cond_true] at h
      have hp := blt_iff.1 hb
      have ih := setParams_rel ps args _ T' (tmps.setIfInBounds p (den ε v)) h hok.2 (by simp [hs]) (fun t => by
        rw [at_set]
        by_cases e : p = t
        · subst e
          rw [if_pos rfl]
          exact ⟨by simp [hs, hp], hok.1⟩
        · rw [if_neg e]
          refine ⟨?_, (ha t).2⟩
          rw [← (ha t).1]
          simp [Array.getElem?_setIfInBounds_ne e])
      exact ⟨by simp [ih.1], ih.2.1, ih.2.2⟩

theorem jump_isNone (x : IExit) : (jumpOf x).isNone = (match x with | .normal => true | _ => false) := by cases x <;> rfl

theorem roundOk_of_exec (hexec : ExecOk P G r) : RoundOk P G r := by
  intro N ε H w k args v H' hw hk hargs h
  obtain ⟨Lk, hε⟩ := hk
  simp only [iround, Option.bind_eq_some_iff] at h
  obtain ⟨ob, hob, h⟩ := h
  split at h
  · rename_i L
    obtain ⟨_, _, hR, R, rfl, hrel⟩ := hw.rel.others _ _ _ hob rfl hε
    cases hnr : noRange L.assign && noRange L.body with
    | false => simp [hnr] at h
    | true =>
    simp only [hnr, cond_true, Option.bind_eq_some_iff] at h
    obtain ⟨T0, hT0, ⟨x1, T1, H1⟩, h1, h⟩ := h
    obtain ⟨hn1, hn2⟩ := Bool.and_eq_true_iff.1 hnr
    obtain ⟨hlen, hsz, hat⟩ := setParams_rel (ε := ε) L.params args L.T T0 R.tmps hT0 hargs hrel.size hrel.at_
    have hy := run_yield (P := P) (w := w) (l := Lk.blk) (r := R) (args := (dens ε args).toArray) hR (by
      have := congrArg List.length hrel.params
      simp at this
      simp [this, hlen])
    refine ⟨Lk, _, _, _, _, hε, hy, ?_⟩
    have hfold : (R.params.zip (dens ε args).toArray).foldl (fun tmps (t, a) => tmps.setIfInBounds t a) R.tmps = (L.params.zip (dens ε args)).foldl (fun tmps (x : Tmp × Value) => tmps.setIfInBounds x.1 x.2) R.tmps := by
      rw [← hrel.params, ← Array.foldl_toList]
      simp
    rw [hfold]
    refine roundIn_of_wpIn (F := Fence.wide) trivial ?_
    show Code.wpIn (Fw (some Lk.blk)) 1 P R.assign _ _ _
    have hf0 : FRel w.heap.size ε H w L.n T0 { tmps := (L.params.zip (dens ε args)).foldl (fun tmps (x : Tmp × Value) => tmps.setIfInBounds x.1 x.2) R.tmps, defers := [] } := ⟨hsz, Nat.le_refl _, trivial, hat⟩
    rw [hrel.assign]
    refine hexec L.n L.assign T0 H x1 T1 H1 h1 (some Lk.blk) N w.heap.size ε _ w (.inr hn1) hw hf0 _ fun ε1 a1 w1 hf1 st1 => ?_
    unfold beginRoundI at h
    cases x1 with
    | exit id => cases h
    | ret => cases h
    | normal =>
      simp only [Option.bind_eq_some_iff] at h
      obtain ⟨ob1, hob1, h⟩ := h
      have hε1 := st1.ext _ _ hε
      split at h
      · rename_i L1
        obtain ⟨_, _, hR1, R1, rfl, hrel1⟩ := st1.rel.others _ _ _ hob1 rfl hε1
        cases hrd : L1.state == .ready with
        | false => simp [hrd] at h
        | true =>
        simp only [hrd, cond_true, Option.bind_eq_some_iff] at h
        obtain ⟨⟨x2, T2, H2⟩, h2, h⟩ := h
        have hready : L1.state = .ready := by
          cases hst : L1.state <;> rw [hst] at hrd <;> first | rfl | cases hrd
        refine ⟨_, run_beginRound hR1 (by rw [hrel1.state, hready]), ?_⟩
        have st2 : Step N ε1 H1 w1 ε1 (H1.put k (.loop { L1 with state := .busy })) (w1.putObj Lk.blk (.loop { R1 with state := .busy })) :=
          Step.otherPut st1.rel hob1 rfl hε1 (.loop { L1 with state := .busy }) rfl (.loop { R1 with state := .busy }) ⟨_, rfl, ⟨rfl, hrel1.pending, hrel1.size, hrel1.at_, hrel1.params, hrel1.assign, hrel1.body⟩⟩
        have st12 := st1.trans st2
        rw [hrel.body]
        refine hexec L.n L.body T1 _ x2 T2 H2 h2 (some Lk.blk) N w.heap.size ε1 a1 _ (.inr hn2) (hw.step st12) (hf1.step st2) _ fun ε3 a3 w3 hf3 st3 => ?_
        have st13 := st12.trans st3
        have hε3 := st13.ext _ _ hε
        simp only [endRoundI, Option.bind_eq_some_iff] at h
        obtain ⟨ob3, hob3, h⟩ := h
        split at h
        · rename_i L3
          simp only [Option.some.injEq, Prod.mk.injEq] at h
          obtain ⟨rfl, rfl⟩ := h
          obtain ⟨_, _, hR3, R3, rfl, hrel3⟩ := st13.rel.others _ _ _ hob3 rfl hε3
          have hend := run_endRound (P := P) (jumpOf x2) hR3
          have st4 : Step N ε3 H2 w3 ε3 (H2.put k (.loop { L3 with state := if (jumpOf x2).isNone then .ready else .done, pending := jumpOf x2 })) (w3.putObj Lk.blk (.loop { R3 with state := if (jumpOf x2).isNone then .ready else .done, pending := jumpOf x2 })) :=
            Step.otherPut st13.rel hob3 rfl hε3 (.loop { L3 with state := if (jumpOf x2).isNone then .ready else .done, pending := jumpOf x2 }) rfl (.loop { R3 with state := if (jumpOf x2).isNone then .ready else .done, pending := jumpOf x2 })
              ⟨_, rfl, ⟨rfl, rfl, hrel3.size, hrel3.at_, hrel3.params, hrel3.assign, hrel3.body⟩⟩
          have hgives : Gives N ε H w (.b (jumpOf x2).isNone) (H2.put k (.loop { L3 with state := if (jumpOf x2).isNone then .ready else .done, pending := jumpOf x2 })) (.returned (.bool (jumpOf x2).isNone)) (w3.putObj Lk.blk (.loop { R3 with state := if (jumpOf x2).isNone then .ready else .done, pending := jumpOf x2 })) :=
            ⟨ε3, rfl, trivial, st13.trans st4⟩
          cases x2 with
          | normal => exact ⟨_, _, hend, hgives⟩
          | exit id => exact ⟨_, _, hend, hgives⟩
          | ret => exact ⟨_, _, hend, hgives⟩
        · cases h
      · cases h
  · cases h

/- Calls. -/
theorem enterT_cons (i : Nat) (v : IV) (l : List IV) (T : TM) : enterT i (v :: l) T = enterT (i + 1) l (Tr.set v (bits i) T) := rfl
theorem enterT_at : ∀ (l : List IV) (i : Nat) (T : TM) (t : Nat), (enterT i l T).at t = if i ≤ t ∧ t < i + l.length then (l[t - i]?).getD (.tup []) else T.at t
  | [], i, T, t => by rw [if_neg (by simp only [List.length_nil]; omega)]; rfl
  | v :: l, i, T, t => by
    rw [enterT_cons, enterT_at l]
    by_cases e : i = t
    · subst e
      rw [if_neg (by omega), at_set, if_pos rfl, if_pos (by simp)]
      simp
    · by_cases h : i + 1 ≤ t ∧ t < i + 1 + l.length
      · rw [if_pos h, if_pos (by simp; omega)]
        rw [show t - i = (t - (i + 1)) + 1 from by omega]
        rfl
      · rw [if_neg h, at_set, if_neg e, if_neg (by simp; omega)]

theorem enter_rel {args : List IV} (hok : oks ε args) (hn : args.length ≤ n) : FRel w.heap.size ε H w n (enterT 0 args .e) { tmps := (dens ε args).toArray ++ Array.replicate (n - (dens ε args).toArray.size) undef, defers := [] } where
  size := by simp; omega
  base := Nat.le_refl _
  defers := trivial
  at_ t := by
    rw [enterT_at]
    by_cases h : t < args.length
    · rw [if_pos (by omega)]
      have h1 : args[t]? = some args[t] := List.getElem?_eq_getElem h
      have hd : (dens ε args).toArray[t]? = some (den ε args[t]) := by rw [List.getElem?_toArray, dens_get, h1]; rfl
      simp only [Nat.sub_zero, h1, Option.getD_some]
      refine ⟨?_, (oks_iff ε args).1 hok _ (List.getElem_mem h)⟩
      have hsz : t < (dens ε args).toArray.size := by simpa using h
      rw [Array.getD_eq_getD_getElem?, Array.getElem?_append_left hsz, hd]
      rfl
    · rw [if_neg (by omega)]
      have : TM.at (.e) t = .tup [] := by simp [TM.at]
      rw [this]
      refine ⟨?_, trivial⟩
      rw [Array.getD_eq_getD_getElem?, Array.getElem?_append_right (by simpa using h), Array.getElem?_replicate]
      split <;> rfl

/-- One result. -/
def resOne (a : Act) : ResultVar → Sem Value
  | .tmp t => pure (a.tmps.getD t undef)
  | .cell x t => do loadVar t (← asAddr (a.tmps.getD x undef))

theorem run_resOne_load {t : TypeId} {v : Value} {u : Value} (h : (Instr.loadAt t u).run P w = .ok v w) (hu : ∃ b o, u = .pointer (some ⟨b, o, none⟩)) :
    (do loadVar t (← asAddr u) : Sem Value).run P w = .ok v w := by
  obtain ⟨b, o, rfl⟩ := hu
  exact h

theorem results_den (hty : TysOk P ty) (hw : HRel N ε H w) (hf : ∀ t, a.tmps.getD t undef = den ε (T.at t) ∧ ok ε (T.at t)) : ∀ (rs : List ResultVar) (l : List IV), results1 ty T H rs = some l →
    (rs.mapM (resOne a)).run P w = .ok (dens ε l) w ∧ oks ε l
  | [], l, h => by simp only [results1, Option.some.injEq] at h; subst h; exact ⟨rfl, trivial⟩
  | .tmp t :: rs, l, h => by
    simp only [results1, Option.map_eq_some_iff] at h
    obtain ⟨l', hl, rfl⟩ := h
    have h1 := results_den hty hw hf rs l' hl
    have h2 := hf t
    refine ⟨?_, h2.2, h1.2⟩
    simp only [List.mapM_cons, resOne, Sem.run_bind, Sem.run_pure, Result.andThen_ok, h1.1, dens, h2.1]
  | .cell x t :: rs, l, h => by
    simp only [results1, Option.bind_eq_some_iff, Option.map_eq_some_iff] at h
    obtain ⟨ti, ht, v, hv, l', hl, rfl⟩ := h
    have h1 := results_den hty hw hf rs l' hl
    have h2 := hf x
    have h3 := sim_load (P := P) (hty t ti ht) hw h2.2 hv
    refine ⟨?_, h3.2, h1.2⟩
    have h4 : (resOne a (.cell x t)).run P w = .ok (den ε v) w := by
      have hu : ∃ b o, den ε (T.at x) = .pointer (some ⟨b, o, none⟩) := by
        cases hx : T.at x with
        | p k o => rw [hx] at h2; obtain ⟨L, hL⟩ := h2.2; exact ⟨L.blk, L.sh + o, by simp [den, hL]⟩
        | g b o => exact ⟨b, o, rfl⟩
        | _ => rw [hx] at hv; simp [iload] at hv
      show (do loadVar t (← asAddr (a.tmps.getD x undef)) : Sem Value).run P w = _
      rw [h2.1]
      exact run_resOne_load h3.1 hu
    rw [List.mapM_cons]
    simp only [Sem.run_bind, h4, Sem.run_pure, Result.andThen_ok, h1.1, dens]

theorem run_results (hty : TysOk P ty) (hw : HRel N ε H w) (hf : ∀ t, a.tmps.getD t undef = den ε (T.at t) ∧ ok ε (T.at t)) {F : Func} {l : List IV} (h : results1 ty T H F.results.toList = some l) :
    (results F a.tmps).run P w = .ok (den ε (tupled l)) w ∧ ok ε (tupled l) := by
  have h1 := results_den (P := P) hty hw hf _ _ h
  have hm : (F.results.mapM (resOne a)).run P w = .ok (dens ε l).toArray w := by
    rw [Array.mapM_eq_mapM_toList, map_eq_pure_bind, Sem.run_bind, h1.1]
    rfl
  have hr : results F a.tmps = (do let vs ← F.results.mapM (resOne a); pure (if h : vs.size = 1 then vs[0] else .tuple vs)) := by
    unfold results
    congr 1
  rw [hr]
  simp only [Sem.run_bind, hm, Result.andThen_ok, Sem.run_pure]
  match l, h1.2 with
  | [], hok => exact ⟨rfl, trivial⟩
  | [v], hok => exact ⟨rfl, hok.1⟩
  | v :: u :: l, hok =>
    refine ⟨?_, hok⟩
    simp [dens, tupled, den]

/-- A frame leaves: the marks are taken. -/
theorem leaves_of {n' : Nat} {F : Func} {tmps : Array Value} {R : Ending → World → Prop} {ε0 : Env} {H0 : IH} {w0 : World} (hN : N ≤ w0.heap.size) : ∀ (ds : List Deferred) (w : World), DefOk w0.heap.size ε H w ds → Step N ε0 H0 w0 ε H w →
    (∀ w', Step N ε0 H0 w0 ε H w' → ∃ u, (results F tmps).run P w' = .ok u w' ∧ R (.returned u) w') → LeavesInM Fence.wide n' P F tmps R ds .returning w
  | [], w, _, st, h => h w st
  | d :: ds, w, hd, st, h => by
    obtain ⟨⟨b, h1, h2, h3, h4, h5⟩, h6⟩ := hd
    have hlt : b < w.heap.size := (Array.getElem?_eq_some_iff.1 h3).1
    have hsame : ∀ b', b' ≠ b → (w.putObj b (.deferred none)).heap[b']? = w.heap[b']? := fun b' hb => World.putObj_heap_other hb
    have hrel : HRel N ε H (w.putObj b (.deferred none)) := st.rel.move (fun _ _ h => h) (fun _ _ => rfl) (by simp) (fun b' hb => hsame b' (fun e => by
      subst e
      rcases hb with hb | hb
      · omega
      · exact h4 hb))
    have st' : Step N ε0 H0 w0 ε H (w.putObj b (.deferred none)) := ⟨st.ext, st.new, st.nx, hrel, by rw [World.putObj_size]; exact st.size,
      fun b' hb' ho => by rw [hsame b' (by omega)]; exact st.frame b' hb' ho, st.own, st.os, st.tape, st.output, st.gl⟩
    have hds : ∀ (l : List Deferred), (∀ d', d' ∈ l → d'.target ≠ .collected b) → DefOk w0.heap.size ε H w l → DefOk w0.heap.size ε H (w.putObj b (.deferred none)) l := fun l => by
      induction l with
      | nil => exact fun _ _ => trivial
      | cons d' l ih =>
        intro hne hl
        obtain ⟨⟨b', g1, g2, g3, g4, g5⟩, g6⟩ := hl
        refine ⟨⟨b', g1, g2, ?_, g4, g5⟩, ih (fun x hx => hne x (by simp [hx])) g6⟩
        rw [hsame b' (fun e => hne d' (by simp) (by rw [g1, e]))]
        exact g3
    exact ⟨by simp, .inl ⟨b, _, by rw [h1], run_takeDeferred h3, leaves_of hN ds _ (hds ds h5 h6) st' h⟩⟩

include hty in
theorem sim_callIn (hexec : ExecOk P G r) {f : FuncId} {fn : IFn} (hfn : FnOk P f fn) {args : List IV} {v : IV} {H' : IH} (hw : Rel G N ε H w) (hargs : oks ε args) (h : icallIn ty r args H fn = some (v, H')) :
    Known P f ∧ Calls P f (dens ε args).toArray w (Gives N ε H w v H') := by
  obtain ⟨F, hF, hb, hn, hres, hname⟩ := hfn.ex
  refine ⟨⟨F, fn.body, hF, hb, hname⟩, ?_⟩
  unfold icallIn at h
  cases hle : Nat.ble args.length fn.ntmps with
  | false => simp [hle] at h
  | true =>
    have hle' := Nat.le_of_ble_eq_true hle
    simp only [hle, cond_true, Option.bind_eq_some_iff] at h
    obtain ⟨⟨x, T1, H1⟩, h1, h⟩ := h
    refine (callsIn_wide (n := 1)).1 (callsIn_of_wp_marks hF hb trivial ?_)
    rw [hn]
    refine hexec fn.ntmps fn.body _ H x T1 H1 h1 none N w.heap.size ε _ w (.inl rfl) hw (enter_rel hargs hle') _ fun ε1 a1 w1 hf1 hst1 => ?_
    unfold callK at h
    have key : (results1 ty T1 H1 fn.results).map (fun l => (tupled l, H1)) = some (v, H') → LeavesInM Fence.wide 1 P F a1.tmps (Gives N ε H w v H') a1.defers .returning w1 := by
      intro h
      simp only [Option.map_eq_some_iff, Prod.mk.injEq] at h
      obtain ⟨l, hl, rfl, rfl⟩ := h
      rw [← hres] at hl
      refine leaves_of hw.rel.base a1.defers w1 hf1.defers hst1 fun w2 hst2 => ?_
      have h2 := run_results (P := P) hty hst2.rel hf1.at_ hl
      exact ⟨_, h2.1, ε1, rfl, h2.2, hst2⟩
    cases x with
    | normal => exact key h
    | ret => exact key h
    | exit id => cases h

/-- Answers that are known. -/
def OrcOk (P : Program) (G : Tr (List IV)) (orc : FuncId → List IV → IH → Option (IV × IH)) : Prop :=
  ∀ (N : Nat) (ε : Env) (H : IH) (w : World) (f : FuncId) (args : List IV) (v : IV) (H' : IH), Rel G N ε H w → oks ε args → orc f args H = some (v, H') →
    Known P f ∧ Calls P f (dens ε args).toArray w (Gives N ε H w v H')

theorem run_succ (ty : TypeId → Option TI) (fns : FuncId → Option IFn) (orc : FuncId → List IV → IH → Option (IV × IH)) (k : Nat) : run ty fns orc (k + 1) = Fns.next ty fns orc (run ty fns orc k) := rfl

include hty in
theorem sim_run {fns : FuncId → Option IFn} (hfns : ∀ f fn, fns f = some fn → FnOk P f fn) {orc : FuncId → List IV → IH → Option (IV × IH)} (horc : OrcOk P G orc)
    (hdr : ∀ r, CallOk P G r → DrawnOk P G ty r) : ∀ k, CallOk P G (run ty fns orc k) ∧ ExecOk P G (run ty fns orc k) ∧ LoopOk P G (run ty fns orc k) k
  | 0 => by
    have h2 : ExecOk P G (run ty fns orc 0) := fun n c T H x T' H' h => nomatch (show (none : Option (IExit × TM × IH)) = some (x, T', H') from h)
    refine ⟨⟨fun N ε H w f args v H' _ _ h => ?_, roundOk_of_exec h2⟩, h2, fun n c T H x T' H' h => ?_⟩
    · exact nomatch (show (none : Option (IV × IH)) = some (v, H') from h)
    · exact nomatch (show (none : Option (IExit × TM × IH)) = some (x, T', H') from h)
  | k + 1 => by
    obtain ⟨h1, h2, h3⟩ := sim_run hfns horc hdr k
    rw [run_succ]
    have hex : ExecOk P G (Fns.next ty fns orc (run ty fns orc k)) := fun n c T H x T' H' h => (sim_exec hty h1 h2 (hdr _ h1) h3 n c T H x T' H' h).1
    refine ⟨⟨fun N ε H w f args v H' hw hargs h => ?_, roundOk_of_exec hex⟩, hex,
      fun n c T H x T' H' h => (sim_exec hty h1 h2 (hdr _ h1) h3 n (.loop c) T H x T' H' h).2 c rfl⟩
    have h : orCall ty fns (run ty fns orc k) orc f args H = some (v, H') := h
    unfold orCall at h
    split at h
    · rename_i u hu
      cases h
      exact horc N ε H w f args _ _ hw hargs hu
    · simp only [Option.bind_eq_some_iff] at h
      obtain ⟨fn, hfn, h⟩ := h
      exact sim_callIn hty h2 (hfns f fn hfn) hw hargs h
end
end Go.Proofs.YtpppmgfiidlfjaaGreatDoor.Sim
