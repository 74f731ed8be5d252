/-
  The run of a drawn region and what its checks tell.
-/
import Derived.Test.YtpppmgfiidlfjaaGreatDoorSuL
set_option linter.unusedSimpArgs false
set_option linter.unusedVariables false
set_option linter.unusedSectionVars false
namespace Go.Proofs.YtpppmgfiidlfjaaGreatDoor.Sim

theorem nth_eq {α : Type} : ∀ (l : List α) (n : Nat), nth l n = l[n]?
  | [], n => by simp [nth]
  | x :: l, 0 => rfl
  | x :: l, n + 1 => by
    have : nth (x :: l) (n + 1) = nth l n := rfl
    rw [this, nth_eq l n]; simp

theorem bitAt_eq (m j : Nat) : bitAt m j = m.testBit j := by
  have h : Nat.land (Nat.shiftRight m j) 1 = m / 2 ^ j % 2 := by
    show (m >>> j) &&& 1 = _
    rw [Nat.and_one_is_mod, Nat.shiftRight_eq_div_pow]
  rw [bitAt, h, Nat.testBit_eq_decide_div_mod_eq]
  rcases Nat.mod_two_eq_zero_or_one (m / 2 ^ j) with e | e <;> rw [e] <;> rfl

theorem bitAt_lor (a b j : Nat) : bitAt (Nat.lor a b) j = (bitAt a j || bitAt b j) := by
  simp only [bitAt_eq]; exact Nat.testBit_or ..
theorem bitAt_one (k j : Nat) : bitAt (Nat.shiftLeft 1 k) j = decide (k = j) := by
  rw [bitAt_eq]
  show (1 <<< k).testBit j = _
  rw [Nat.one_shiftLeft, Nat.testBit_two_pow]
@[simp] theorem bitAt_zero (j : Nat) : bitAt 0 j = false := by simp [bitAt_eq]
theorem bitAt_dbit (d : Option Tmp) (t : Nat) : bitAt (dbit d) t = decide (d = some t) := by
  cases d with
  | none => simp [dbit]
  | some d => rw [dbit, bitAt_one]; simp
theorem within_spec {a b : Nat} (h : within a b = true) {j : Nat} (hj : bitAt a j = true) : bitAt b j = true := by
  have : a &&& b = a := Nat.eq_of_beq_eq_true h
  rw [bitAt_eq] at *
  rw [← this, Nat.testBit_and] at hj
  simp at hj; exact hj.2

theorem bindsI_eq (e : Edge) : bindsI e = Region.binds .any e := by
  unfold bindsI Region.binds
  cases e.ground <;> rfl

/-- What must come before an operation. -/
inductive Bel (ops : Array Oper) : Nat → Nat → Prop
  | edge {i : Nat} {o : Oper} {e : Edge} (ho : ops[i]? = some o) (he : e ∈ o.after) (hb : Region.binds .any e = true) : Bel ops i e.on
  | trans {i j : Nat} {o : Oper} {e : Edge} (ho : ops[i]? = some o) (he : e ∈ o.after) (hb : Region.binds .any e = true) (h : Bel ops e.on j) : Bel ops i j

def Closed (ops : Array Oper) (D : Nat → Prop) : Prop := ∀ i o e, ops[i]? = some o → e ∈ o.after → Region.binds .any e = true → D i → D e.on

theorem Bel.closed {ops : Array Oper} {D : Nat → Prop} (hc : Closed ops D) {i j : Nat} (h : Bel ops i j) : D i → D j := by
  induction h with
  | edge ho he hb => exact hc _ _ _ ho he hb
  | trans ho he hb _ ih => exact fun hi => ih (hc _ _ _ ho he hb hi)

theorem Bel.ready {ops : Array Oper} {D : Nat → Prop} (hc : Closed ops D) {i j : Nat} (h : Bel ops i j) (hr : ∀ o e, ops[i]? = some o → e ∈ o.after → Region.binds .any e = true → D e.on) : D j := by
  cases h with
  | edge ho he hb => exact hr _ _ ho he hb
  | trans ho he hb h => exact h.closed hc (hr _ _ ho he hb)

theorem below_cons (es : List Ent) (e : Edge) (l : List Edge) : below es (e :: l) = bif bindsI e then (below es l).bind (belowOne es e) else below es l := rfl

/-- What the masks tell. -/
structure Masks (ops : Array Oper) (es : List Ent) (i : Nat) (tc dm : Nat) : Prop where
  below : ∀ j, bitAt tc j = true → Bel ops i j ∧ j < es.length
  writes : ∀ t, bitAt dm t = true → ∃ j x, es[j]? = some x ∧ x.o.dst = some t ∧ bitAt tc j = true

theorem below_masks {ops : Array Oper} {i : Nat} {o : Oper} (ho : ops[i]? = some o) {es : List Ent}
    (hes : ∀ j x, es[j]? = some x → Masks ops (es.take j) j x.tc x.dm) : ∀ (l : List Edge) (tc dm : Nat), (∀ e, e ∈ l → e ∈ o.after) → below es l = some (tc, dm) →
      Masks ops es i tc dm ∧ ∀ e, e ∈ l → Region.binds .any e = true → e.on < es.length
  | [], tc, dm, _, h => by
    have h : some (0, 0) = some (tc, dm) := h
    cases h
    exact ⟨⟨fun j hj => by simp at hj, fun t ht => by simp at ht⟩, fun e he => by cases he⟩
  | e :: l, tc, dm, hl, h => by
    rw [below_cons] at h
    cases hb : bindsI e with
    | false =>
      simp only [hb, cond_false] at h
      obtain ⟨h1, h2⟩ := below_masks ho hes l tc dm (fun x hx => hl x (by simp [hx])) h
      refine ⟨h1, fun x hx hbx => ?_⟩
      rcases List.mem_cons.1 hx with rfl | hx
      · rw [← bindsI_eq, hb] at hbx; cases hbx
      · exact h2 x hx hbx
    | true =>
      simp only [hb, cond_true, Option.bind_eq_some_iff] at h
      obtain ⟨⟨tc1, dm1⟩, h1, h⟩ := h
      simp only [belowOne, nth_eq, Option.bind_eq_some_iff, Option.some.injEq, Prod.mk.injEq] at h
      obtain ⟨x, hx, rfl, rfl⟩ := h
      obtain ⟨h2, h3⟩ := below_masks ho hes l tc1 dm1 (fun x hx => hl x (by simp [hx])) h1
      have hlt : e.on < es.length := (List.getElem?_eq_some_iff.1 hx).1
      have hbe : Region.binds .any e = true := by rw [← bindsI_eq, hb]
      have hmx := hes _ _ hx
      refine ⟨⟨fun j hj => ?_, fun t ht => ?_⟩, fun y hy hby => ?_⟩
      · simp only [bitAt_lor, bitAt_one, Bool.or_eq_true, decide_eq_true_eq] at hj
        rcases hj with hj | hj | hj
        · exact h2.below j hj
        · have := hmx.below j hj
          exact ⟨.trans ho (hl e (by simp)) hbe this.1, by have := this.2; simp at this; omega⟩
        · subst hj; exact ⟨.edge ho (hl e (by simp)) hbe, hlt⟩
      · simp only [bitAt_lor, bitAt_dbit, Bool.or_eq_true, decide_eq_true_eq] at ht
        rcases ht with ht | ht | ht
        · obtain ⟨j, y, h4, h5, h6⟩ := h2.writes t ht
          exact ⟨j, y, h4, h5, by rw [bitAt_lor, h6]; rfl⟩
        · obtain ⟨j, y, h4, h5, h6⟩ := hmx.writes t ht
          refine ⟨j, y, ?_, h5, by rw [bitAt_lor, bitAt_lor, h6]; simp⟩
          rw [List.getElem?_take] at h4
          split at h4
          · exact h4
          · cases h4
        · exact ⟨e.on, x, hx, ht, by rw [bitAt_lor, bitAt_lor, bitAt_one]; simp⟩
      · rcases List.mem_cons.1 hy with rfl | hy
        · exact hlt
        · exact h3 y hy hby

section
variable {ty : TypeId → Option TI} {r : Fns} {n : Nat} {all : List Oper} {Tn : TM} {Hn : IH}

/-- The run in the order of the text. -/
def Chain (ty : TypeId → Option TI) (r : Fns) (n : Nat) (all : List Oper) (Tn : TM) (Hn : IH) : List Ent → List Ent → List Oper → TM → IH → Prop
  | _, [], [], T, H => T = Tn ∧ H = Hn
  | es, e :: m, o :: l, T, H => e.o = o ∧ e.T = T ∧ e.H = H ∧ isWanted T all o = e.w ∧ below es o.after.toList = some (e.tc, e.dm) ∧
      ∃ T' H', putT n o.dst e.v T = some T' ∧ (e.w = true → iop ty r T H o.op = some (e.v, H')) ∧ (e.w = false → e.v = .tup [] ∧ H' = H) ∧ Chain ty r n all Tn Hn (es ++ [e]) m l T' H'
  | _, _, _, _, _ => False

theorem trRun_cons (o : Oper) (l : List Oper) (es : List Ent) (T : TM) (H : IH) : trRun ty r n all (o :: l) es T H = trOne ty r n all o (trRun ty r n all l) es T H := rfl

theorem trRun_chain : ∀ (l : List Oper) (es : List Ent) (T : TM) (H : IH) (es' : List Ent), trRun ty r n all l es T H = some (es', Tn, Hn) → ∃ m, es' = es ++ m ∧ Chain ty r n all Tn Hn es m l T H
  | [], es, T, H, es', h => by
    have h : some (es, T, H) = some (es', Tn, Hn) := h
    cases h
    exact ⟨[], by simp, rfl, rfl⟩
  | o :: l, es, T, H, es', h => by
    rw [trRun_cons, trOne] at h
    simp only [Option.bind_eq_some_iff] at h
    obtain ⟨⟨tc, dm⟩, hb, h⟩ := h
    cases hw : isWanted T all o with
    | true =>
      simp only [hw, cond_true, Option.bind_eq_some_iff] at h
      obtain ⟨⟨v, H'⟩, hop, T', hp, h⟩ := h
      obtain ⟨m, rfl, hc⟩ := trRun_chain l _ T' H' es' h
      exact ⟨Ent.mk o T H true v tc dm :: m, by simp, rfl, rfl, rfl, hw, hb, T', H', hp, fun _ => hop, (by simp), hc⟩
    | false =>
      simp only [hw, cond_false, Option.bind_eq_some_iff] at h
      obtain ⟨T', hp, h⟩ := h
      obtain ⟨m, rfl, hc⟩ := trRun_chain l _ T' H es' h
      exact ⟨Ent.mk o T H false (.tup []) tc dm :: m, by simp, rfl, rfl, rfl, hw, hb, T', H, hp, (by simp), fun _ => ⟨rfl, rfl⟩, hc⟩

def TA (es : List Ent) (Tn : TM) (i : Nat) : TM := ((es[i]?).map (·.T)).getD Tn
def HA (es : List Ent) (Hn : IH) (i : Nat) : IH := ((es[i]?).map (·.H)).getD Hn

/-- The same, told by numbers. -/
structure TrSpec (ty : TypeId → Option TI) (r : Fns) (n : Nat) (all : List Oper) (Tn : TM) (Hn : IH) (pre m : List Ent) (l : List Oper) (T : TM) (H : IH) : Prop where
  len : m.length = l.length
  op : ∀ (i : Nat) (e : Ent), m[i]? = some e → l[i]? = some e.o
  want : ∀ (i : Nat) (e : Ent), m[i]? = some e → isWanted e.T all e.o = e.w
  run1 : ∀ (i : Nat) (e : Ent), m[i]? = some e → e.w = true → iop ty r e.T e.H e.o.op = some (e.v, HA m Hn (i + 1))
  run0 : ∀ (i : Nat) (e : Ent), m[i]? = some e → e.w = false → e.v = .tup [] ∧ HA m Hn (i + 1) = e.H
  put : ∀ (i : Nat) (e : Ent), m[i]? = some e → putT n e.o.dst e.v e.T = some (TA m Tn (i + 1))
  bel : ∀ (i : Nat) (e : Ent), m[i]? = some e → below (pre ++ m.take i) e.o.after.toList = some (e.tc, e.dm)
  t0 : TA m Tn 0 = T
  h0 : HA m Hn 0 = H

theorem chain_spec : ∀ (m : List Ent) (es : List Ent) (l : List Oper) (T : TM) (H : IH), Chain ty r n all Tn Hn es m l T H → TrSpec ty r n all Tn Hn es m l T H
  | [], es, [], T, H, h => by
    obtain ⟨rfl, rfl⟩ := h
    exact ⟨rfl, fun i e h => by simp at h, fun i e h => by simp at h, fun i e h => by simp at h, fun i e h => by simp at h, fun i e h => by simp at h, fun i e h => by simp at h, rfl, rfl⟩
  | [], es, o :: l, T, H, h => by exact h.elim
  | e :: m, es, [], T, H, h => by exact h.elim
  | e :: m, es, o :: l, T, H, h => by
    obtain ⟨rfl, rfl, rfl, hw, hb, T', H', hp, h1, h0, hc⟩ := h
    have ih := chain_spec m (es ++ [e]) l T' H' hc
    have hT : ∀ i, TA (e :: m) Tn (i + 1) = TA m Tn i := fun i => by simp [TA]
    have hH : ∀ i, HA (e :: m) Hn (i + 1) = HA m Hn i := fun i => by simp [HA]
    refine ⟨by simp [ih.len], fun i x hx => ?_, fun i x hx => ?_, fun i x hx hwx => ?_, fun i x hx hwx => ?_, fun i x hx => ?_, fun i x hx => ?_, rfl, rfl⟩
    · cases i with
      | zero => simp at hx; subst hx; rfl
      | succ i => simpa using ih.op i x (by simpa using hx)
    · cases i with
      | zero => simp at hx; subst hx; exact hw
      | succ i => exact ih.want i x (by simpa using hx)
    · rw [hH]
      cases i with
      | zero => simp at hx; subst hx; rw [ih.h0]; exact h1 hwx
      | succ i => exact ih.run1 i x (by simpa using hx) hwx
    · rw [hH]
      cases i with
      | zero => simp at hx; subst hx; rw [ih.h0]; exact h0 hwx
      | succ i => exact ih.run0 i x (by simpa using hx) hwx
    · rw [hT]
      cases i with
      | zero => simp at hx; subst hx; rw [ih.t0]; exact hp
      | succ i => exact ih.put i x (by simpa using hx)
    · cases i with
      | zero => simp at hx; subst hx; simpa using hb
      | succ i => simpa using ih.bel i x (by simpa using hx)

/- What the checks tell. -/
def ChainAt (es : List Ent) (h : Nat) : Prop := ∃ x, es[h]? = some x ∧ chainE x = true

theorem flt_chain {e : Ent} (h : isFlt e = true) : chainE e = false := by simp [chainE, h]
theorem flt_heavy {e : Ent} (h : isFlt e = true) : heavy e.o = true := by
  simp only [isFlt, Bool.and_eq_true] at h
  cases ho : e.o.op <;> rw [ho] at h <;> simp [opFloat] at h <;> simp [heavy, ho, opPure, opRead]
theorem light_of {e : Ent} (h1 : isFlt e = false) (h2 : chainE e = false) : heavy e.o = false := by simpa [chainE, h1] using h2

structure HvSpec (es : List Ent) (s : HSt) : Prop where
  i : s.i = es.length
  cm : ∀ h, bitAt s.cm h = true ↔ ChainAt es h
  chain : ∀ (i : Nat) (e : Ent), es[i]? = some e → chainE e = true → ∀ h, h < i → ChainAt es h → bitAt e.tc h = true
  fs : ∀ (f : Nat) (e : Ent), es[f]? = some e → isFlt e = true → ∃ m, (f, m) ∈ s.fs ∧ ∀ h, h < f → ChainAt es h → bitAt m h = true
  flt : ∀ (f : Nat) (e0 : Ent), es[f]? = some e0 → isFlt e0 = true → ∀ (i : Nat) (e : Ent), es[i]? = some e → f < i → bitAt e.tc f = true → ∀ h, h < f → ChainAt es h → bitAt e.tc h = true

theorem get_append {es : List Ent} {e x : Ent} {h : Nat} : (es ++ [e])[h]? = some x ↔ es[h]? = some x ∨ (h = es.length ∧ x = e) := by
  by_cases hl : h < es.length
  · rw [List.getElem?_append_left hl]
    exact ⟨.inl, fun hh => hh.resolve_right (by omega)⟩
  · rw [List.getElem?_append_right (by omega)]
    constructor
    · intro hx
      have hlt := (List.getElem?_eq_some_iff.1 hx).1
      simp at hlt
      have : h = es.length := by omega
      subst this
      simp at hx; exact .inr ⟨rfl, hx.symm⟩
    · rintro (hx | ⟨rfl, rfl⟩)
      · have := (List.getElem?_eq_some_iff.1 hx).1; omega
      · simp

theorem chainAt_append {es : List Ent} {e : Ent} {h : Nat} : ChainAt (es ++ [e]) h ↔ ChainAt es h ∨ (h = es.length ∧ chainE e = true) := by
  unfold ChainAt
  constructor
  · rintro ⟨x, hx, hh⟩
    rcases get_append.1 hx with hx | ⟨rfl, rfl⟩
    · exact .inl ⟨x, hx, hh⟩
    · exact .inr ⟨rfl, hh⟩
  · rintro (⟨x, hx, hh⟩ | ⟨rfl, hh⟩)
    · exact ⟨x, get_append.2 (.inl hx), hh⟩
    · exact ⟨e, get_append.2 (.inr ⟨rfl, rfl⟩), hh⟩

theorem hvRun_cons (e : Ent) (l : List Ent) (s : HSt) : hvRun (e :: l) s = bif floatOk e.tc s.fs then (hvNext s e).bind (hvRun l) else none := rfl

theorem hvRun_spec : ∀ (l es : List Ent) (s s' : HSt), HvSpec es s → hvRun l s = some s' → HvSpec (es ++ l) s'
  | [], es, s, s', hs, h => by
    have h : some s = some s' := h
    cases h
    simpa using hs
  | e :: l, es, s, s', hs, h => by
    rw [hvRun_cons] at h
    cases hfo : floatOk e.tc s.fs with
    | false => simp [hfo] at h
    | true =>
    simp only [hfo, cond_true, Option.bind_eq_some_iff] at h
    obtain ⟨s1, h1, h⟩ := h
    have low : ∀ {f h : Nat} {x : Ent}, es[f]? = some x → h < f → ChainAt (es ++ [e]) h → ChainAt es h := fun {f h x} hx hh hv => by
      have := (List.getElem?_eq_some_iff.1 hx).1
      rcases chainAt_append.1 hv with h5 | ⟨rfl, _⟩
      · exact h5
      · omega
    have low' : ∀ {h : Nat}, h < es.length → ChainAt (es ++ [e]) h → ChainAt es h := fun {h} hh hv => by
      rcases chainAt_append.1 hv with h5 | ⟨rfl, _⟩
      · exact h5
      · omega
    have hfl : ∀ (f : Nat) (e0 : Ent), es[f]? = some e0 → isFlt e0 = true → bitAt e.tc f = true → ∀ h, h < f → ChainAt es h → bitAt e.tc h = true := fun f e0 h0 hf hb h hh hv => by
      obtain ⟨m, hm, hmm⟩ := hs.fs f e0 h0 hf
      have := List.all_eq_true.1 hfo (f, m) hm
      simp only [hb, cond_true] at this
      exact within_spec this (hmm h hh hv)
    have flt' : ∀ (f : Nat) (e0 : Ent), (es ++ [e])[f]? = some e0 → isFlt e0 = true → ∀ (i : Nat) (x : Ent), (es ++ [e])[i]? = some x → f < i → bitAt x.tc f = true → ∀ h, h < f → ChainAt (es ++ [e]) h → bitAt x.tc h = true := fun f e0 h0 hf i x hx hlt hb h hh hv => by
      rcases get_append.1 h0 with h0' | ⟨rfl, rfl⟩
      · rcases get_append.1 hx with hx | ⟨rfl, rfl⟩
        · exact hs.flt f e0 h0' hf i x hx hlt hb h hh (low h0' hh hv)
        · exact hfl f e0 h0' hf hb h hh (low h0' hh hv)
      · have := (List.getElem?_eq_some_iff.1 hx).1
        simp at this; omega
    have key : HvSpec (es ++ [e]) s1 := by
      unfold hvNext at h1
      cases hf : isFlt e with
      | true =>
        simp only [hf, cond_true, Option.some.injEq] at h1
        subst h1
        have hc := flt_chain hf
        refine ⟨by simp [hs.i], fun h => ?_, fun i x hx hvx h hh hv => ?_, fun f x hx hfx => ?_, flt'⟩
        · rw [chainAt_append, hs.cm]; simp [hc]
        · rcases get_append.1 hx with hx | ⟨rfl, rfl⟩
          · exact hs.chain i x hx hvx h hh (low hx hh hv)
          · rw [hc] at hvx; cases hvx
        · rcases get_append.1 hx with hx | ⟨rfl, rfl⟩
          · obtain ⟨m, hm, hmm⟩ := hs.fs f x hx hfx
            exact ⟨m, by simp [hm], fun h hh hv => hmm h hh (low hx hh hv)⟩
          · exact ⟨s.cm, by rw [hs.i]; simp, fun h hh hv => (hs.cm h).2 (low' hh hv)⟩
      | false =>
        simp only [hf, cond_false] at h1
        have fs' : ∀ (f : Nat) (x : Ent), (es ++ [e])[f]? = some x → isFlt x = true → ∃ m, (f, m) ∈ s.fs ∧ ∀ h, h < f → ChainAt (es ++ [e]) h → bitAt m h = true := fun f x hx hfx => by
          rcases get_append.1 hx with hx | ⟨rfl, rfl⟩
          · obtain ⟨m, hm, hmm⟩ := hs.fs f x hx hfx
            exact ⟨m, hm, fun h hh hv => hmm h hh (low hx hh hv)⟩
          · rw [hf] at hfx; cases hfx
        cases hv : heavy e.o with
        | false =>
          simp only [hv, cond_false, Option.some.injEq] at h1
          subst h1
          have hc : chainE e = false := by simp [chainE, hv]
          refine ⟨by simp [hs.i], fun h => ?_, fun i x hx hvx h hh hvv => ?_, fs', flt'⟩
          · rw [chainAt_append, hs.cm]; simp [hc]
          · rcases get_append.1 hx with hx | ⟨rfl, rfl⟩
            · exact hs.chain i x hx hvx h hh (low hx hh hvv)
            · rw [hc] at hvx; cases hvx
        | true =>
          simp only [hv, cond_true] at h1
          have hc : chainE e = true := by simp [chainE, hv, hf]
          cases hwi : within s.cm e.tc with
          | false => simp [hwi] at h1
          | true =>
            simp only [hwi, cond_true, Option.some.injEq] at h1
            subst h1
            refine ⟨by simp [hs.i], fun h => ?_, fun i x hx hvx h hh hvv => ?_, fs', flt'⟩
            · rw [chainAt_append, bitAt_lor, bitAt_one, Bool.or_eq_true, hs.cm, decide_eq_true_eq, hs.i]
              constructor
              · rintro (h | h)
                · exact .inl h
                · exact .inr ⟨h.symm, hc⟩
              · rintro (h | h)
                · exact .inl h
                · exact .inr h.1.symm
            · rcases get_append.1 hx with hx | ⟨rfl, rfl⟩
              · exact hs.chain i x hx hvx h hh (low hx hh hvv)
              · exact within_spec hwi ((hs.cm h).2 (low' hh hvv))
    have := hvRun_spec l (es ++ [e]) s1 s' key h
    simpa using this

theorem dsRun_cons (e : Ent) (l : List Ent) (s : Nat) : dsRun (e :: l) s = (dsOne s e.o.dst).bind (dsRun l) := rfl

/-- Each temporary is written by one only. -/
structure DsSpec (es : List Ent) (A : Nat) : Prop where
  one : ∀ (i j : Nat) (e x : Ent) (d : Nat), es[i]? = some e → es[j]? = some x → e.o.dst = some d → x.o.dst = some d → i = j
  all : ∀ (i : Nat) (e : Ent) (d : Nat), es[i]? = some e → e.o.dst = some d → bitAt A d = true

theorem dsRun_spec : ∀ (l es : List Ent) (s A : Nat), DsSpec es s → dsRun l s = some A → DsSpec (es ++ l) A
  | [], es, s, A, hs, h => by
    have h : some s = some A := h
    cases h
    simpa using hs
  | e :: l, es, s, A, hs, h => by
    rw [dsRun_cons, Option.bind_eq_some_iff] at h
    obtain ⟨s1, h1, h⟩ := h
    have key : DsSpec (es ++ [e]) s1 := by
      cases hd : e.o.dst with
      | none =>
        rw [hd] at h1
        have h1 : some s = some s1 := h1
        cases h1
        refine ⟨fun i j x y d hx hy hdx hdy => ?_, fun i x d hx hdx => ?_⟩
        · rcases get_append.1 hx with hx1 | ⟨rfl, rfl⟩
          · rcases get_append.1 hy with hy1 | ⟨rfl, rfl⟩
            · exact hs.one i j x y d hx1 hy1 hdx hdy
            · rw [hd] at hdy; cases hdy
          · rw [hd] at hdx; cases hdx
        · rcases get_append.1 hx with hx1 | ⟨rfl, rfl⟩
          · exact hs.all i x d hx1 hdx
          · rw [hd] at hdx; cases hdx
      | some dd =>
        rw [hd] at h1
        simp only [dsOne] at h1
        cases hb : bitAt s dd with
        | true => simp [hb] at h1
        | false =>
          simp only [hb, cond_false, Option.some.injEq] at h1
          subst h1
          refine ⟨fun i j x y d hx hy hdx hdy => ?_, fun i x d hx hdx => ?_⟩
          · rcases get_append.1 hx with hx1 | ⟨rfl, rfl⟩
            · rcases get_append.1 hy with hy1 | ⟨rfl, rfl⟩
              · exact hs.one i j x y d hx1 hy1 hdx hdy
              · rw [hd] at hdy; cases hdy
                have := hs.all i x dd hx1 hdx
                rw [hb] at this; cases this
            · rw [hd] at hdx; cases hdx
              rcases get_append.1 hy with hy1 | ⟨rfl, rfl⟩
              · have := hs.all j y dd hy1 hdy
                rw [hb] at this; cases this
              · rfl
          · rw [bitAt_lor, bitAt_one]
            rcases get_append.1 hx with hx1 | ⟨rfl, rfl⟩
            · rw [hs.all i x d hx1 hdx]; rfl
            · rw [hd] at hdx; cases hdx; simp
    have := dsRun_spec l (es ++ [e]) s1 A key h
    simpa using this
end
end Go.Proofs.YtpppmgfiidlfjaaGreatDoor.Sim
