/-
  Calls that are told as a whole, with what they read and write of the heap.
-/
import Derived.Test.YtpppmgfiidlfjaaGreatDoorSuS
set_option linter.unusedSimpArgs false
set_option linter.unusedVariables false
set_option linter.unusedSectionVars false
namespace Go.Proofs.YtpppmgfiidlfjaaGreatDoor.Sim

/-- A call that is told as a whole: what it reads and writes of the heap, what it makes. -/
structure HEnt where
  f : FuncId
  args : List IV
  pre : List (Nat × IObj)
  nx : Nat
  v : IV
  post : List (Nat × IObj)
  nx' : Nat

noncomputable def puts (t : Tr IObj) : List (Nat × IObj) → Tr IObj
  | [] => t
  | (k, x) :: l => Tr.set x (bits k) (puts t l)

theorem puts_get (t : Tr IObj) : ∀ (l : List (Nat × IObj)) (k : Nat), (puts t l).get (bits k) = match (build l).get (bits k) with | some o => some o | none => t.get (bits k)
  | [], k => by simp [puts, build]
  | (j, x) :: l, k => by
    rw [puts, build, get_set, get_set]
    by_cases e : j = k
    · simp [e]
    · simp only [e, if_false]; exact puts_get t l k

noncomputable def HEnt.out (x : HEnt) (H : IH) : IH := ⟨puts H.h x.post, x.nx', H.gl⟩

noncomputable def HEnt.here (x : HEnt) (f : FuncId) (args : List IV) (H : IH) : Bool :=
  Nat.beq x.f f && (Nat.beq H.nx x.nx && (eqvs (eqv 20) x.args args && x.pre.all (heapOk H x.nx)))

/-- Answers of both kinds. -/
noncomputable def orcHOf (l : List (FuncId × List IV × IV)) (hl : List HEnt) (f : FuncId) (args : List IV) (H : IH) : Option (IV × IH) :=
  List.rec (motive := fun _ => Option (IV × IH)) (orcOf l f args H) (fun x _ ih => bif x.here f args H then some (x.v, x.out H) else ih) hl

theorem orcHOf_cons (l : List (FuncId × List IV × IV)) (x : HEnt) (hl : List HEnt) (f : FuncId) (args : List IV) (H : IH) :
    orcHOf l (x :: hl) f args H = bif x.here f args H then some (x.v, x.out H) else orcHOf l hl f args H := rfl

def hasKey (k : Nat) (l : List (Nat × IObj)) : Bool := l.any fun y => Nat.beq y.1 k

def mateIn (l : List (Nat × IObj)) : IObj → Bool
  | .cells (some m) _ => hasKey m l
  | .cells none _ => true
  | .map _ => true
  | _ => false

def preOk (x : HEnt) : Bool := x.pre.all fun y => hasKey y.1 x.post && (Nat.blt y.1 x.nx && mateIn x.pre y.2)

noncomputable def hChk (R : Fns) (G : Tr (List IV)) (x : HEnt) : Bool :=
  preOk x && match R.call x.f x.args ⟨build x.pre, x.nx, G⟩ with
  | some (v, H') => eqv 20 v x.v && (Nat.beq H'.nx x.nx' && x.post.all (heapOk H' x.nx'))
  | none => false

theorem build_has : ∀ (l : List (Nat × IObj)) (k : Nat), hasKey k l = true → ∃ o, (build l).get (bits k) = some o
  | [], k, h => by simp [hasKey] at h
  | (j, x) :: l, k, h => by
    rw [build, get_set]
    by_cases e : j = k
    · exact ⟨x, by rw [if_pos e]⟩
    · rw [if_neg e]
      refine build_has l k ?_
      simp only [hasKey, List.any_cons, Bool.or_eq_true] at h
      rcases h with h | h
      · exact absurd (Nat.eq_of_beq_eq_true h) e
      · exact h

/-- Said of a told call. -/
def HAnswer (P : Program) (G : Tr (List IV)) (x : HEnt) : Prop :=
  ∀ (N : Nat) (ε : Env) (H : IH) (w : World), Rel G N ε H w → H.nx = x.nx → oks ε x.args → (∀ k o, (k, o) ∈ x.pre → H.get k = some o) →
    Known P x.f ∧ Calls P x.f (dens ε x.args).toArray w (Gives N ε H w x.v (x.out H))

section
variable {P : Program} {G : Tr (List IV)} {r : Fns}

theorem hanswer_of (hcall : CallOk P G r) {x : HEnt} (h : hChk r G x = true) : HAnswer P G x := by
  intro N ε H w R hnx hargs hpre
  unfold hChk at h
  rw [Bool.and_eq_true] at h
  obtain ⟨hp, h⟩ := h
  split at h
  case h_2 => cases h
  rename_i v H1 hrun
  simp only [Bool.and_eq_true] at h
  obtain ⟨hv, hn1, hpost⟩ := h
  have hv := eqv_eq 20 _ _ hv
  have hn1 := Nat.eq_of_beq_eq_true hn1
  subst hv
  -- the part of the heap
  have pmem : ∀ k o, (⟨build x.pre, x.nx, G⟩ : IH).get k = some o → (k, o) ∈ x.pre := fun k o hk => build_mem x.pre k o hk
  have pinfo : ∀ k o, (k, o) ∈ x.pre → hasKey k x.post = true ∧ k < x.nx ∧ mateIn x.pre o = true := fun k o hm => by
    have := List.all_eq_true.1 hp _ hm
    simp only [Bool.and_eq_true] at this
    exact ⟨this.1, blt_iff.1 this.2.1, this.2.2⟩
  have phas : ∀ k, (⟨build x.pre, x.nx, G⟩ : IH).has k → ∃ o, (k, o) ∈ x.pre ∧ H.get k = some o ∧ ((∃ m c, o = .cells m c) ∨ o.other = true) := fun k hk => by
    rcases hk with ⟨m, c, hk⟩ | ⟨o, hk, ho⟩
    · have := pmem _ _ hk; exact ⟨_, this, hpre _ _ this, .inl ⟨m, c, rfl⟩⟩
    · have := pmem _ _ hk; exact ⟨_, this, hpre _ _ this, .inr ho⟩
  have phas' : ∀ k, (⟨build x.pre, x.nx, G⟩ : IH).has k → H.has k := fun k hk => by
    obtain ⟨o, _, hg, hh⟩ := phas k hk
    rcases hh with ⟨m, c, rfl⟩ | ho
    · exact .inl ⟨m, c, hg⟩
    · exact .inr ⟨o, hg, ho⟩
  have Rp : Rel G N ε (⟨build x.pre, x.nx, G⟩ : IH) w := by
    refine ⟨R.rel.part R.gl.symm (fun k hk => ?_) (fun k o hk _ => hpre _ _ (pmem _ _ hk)), fun k hk => R.fresh k (by rw [hnx]; exact hk), rfl⟩
    obtain ⟨o, hm, _⟩ := phas k hk
    exact (pinfo _ _ hm).2.1
  obtain ⟨h1, h2⟩ := hcall.calls N ε _ w x.f x.args _ H1 Rp hargs hrun
  refine ⟨h1, Calls.mono h2 fun e w' he => ?_⟩
  cases e with
  | panicked _ => exact he.elim
  | outgrown => exact he.elim
  | returned u =>
    obtain ⟨ε', hu, hok, st⟩ := he
    refine ⟨ε', hu, hok, ?_⟩
    have qmem : ∀ k o, (build x.post).get (bits k) = some o → k < x.nx' ∧ H1.get k = some o := fun k o hk => by
      have hm := build_mem x.post k o hk
      have := List.all_eq_true.1 hpost _ hm
      simp only [heapOk, Bool.and_eq_true] at this
      refine ⟨blt_iff.1 this.1, ?_⟩
      have h5 := this.2
      split at h5
      · rename_i o' ho
        rw [ho, objEq_eq h5]
      · cases h5
    have hget : ∀ k, (x.out H).get k = match (build x.post).get (bits k) with | some o => some o | none => H.get k := fun k => puts_get H.h x.post k
    have hnx1 : H.nx ≤ x.nx' := by
      have := st.nx
      rw [hn1] at this
      rw [hnx]; exact this
    -- an object that is not told of
    have out : ∀ k o, (build x.post).get (bits k) = none → H.get k = some o → ((∃ m c, o = .cells m c) ∨ o.other = true) →
        k < x.nx ∧ ε' k = ε k ∧ (∀ M, ε k = some M → M.blk < w.heap.size ∧ ¬ Own ε (⟨build x.pre, x.nx, G⟩ : IH) M.blk) := fun k o hk hg hoo => by
      have hhas : H.has k := by
        rcases hoo with ⟨m, c, rfl⟩ | ho
        · exact .inl ⟨m, c, hg⟩
        · exact .inr ⟨o, hg, ho⟩
      have hlt := R.rel.dom k hhas
      rw [hnx] at hlt
      refine ⟨hlt, ?_, fun M hM => ⟨R.rel.own_lt ⟨k, M, hhas, hM, rfl⟩, fun ho => ?_⟩⟩
      · by_cases e : ε' k = ε k
        · exact e
        · have := (st.new k e).1
          exact absurd hlt (Nat.not_lt.2 this)
      · obtain ⟨k0, M0, hk0, hM0, hb⟩ := ho
        obtain ⟨o0, hm0, hg0, _⟩ := phas k0 hk0
        obtain ⟨i1, _, i3⟩ := pinfo _ _ hm0
        have hne : k0 ≠ k := fun e => by
          subst e
          obtain ⟨o', ho'⟩ := build_has x.post k0 i1
          rw [hk] at ho'; cases ho'
        obtain ⟨c, hc⟩ := R.rel.sep k0 k M0 M (phas' k0 hk0) hhas hne hM0 hM hb
        rw [hg0] at hc
        cases hc
        simp only [mateIn, hasKey, List.any_eq_true] at i3
        obtain ⟨y, hy, hyk⟩ := i3
        have hyk := Nat.eq_of_beq_eq_true hyk
        obtain ⟨o', ho'⟩ := build_has x.post k (by rw [← hyk]; exact (pinfo y.1 y.2 hy).1)
        rw [hk] at ho'; cases ho'
    have hcase : ∀ k o, (x.out H).get k = some o → ((build x.post).get (bits k) = some o ∧ k < x.nx' ∧ H1.get k = some o) ∨ ((build x.post).get (bits k) = none ∧ H.get k = some o) := fun k o hk => by
      rw [hget] at hk
      cases hb : (build x.post).get (bits k) with
      | some o' => rw [hb] at hk; cases hk; exact .inl ⟨rfl, qmem k _ hb⟩
      | none => rw [hb] at hk; exact .inr ⟨rfl, hk⟩
    have hhas : ∀ k, (x.out H).has k → (∃ o, (build x.post).get (bits k) = some o ∧ k < x.nx' ∧ H1.get k = some o ∧ H1.has k) ∨
        (∃ o, (build x.post).get (bits k) = none ∧ H.get k = some o ∧ ((∃ m c, o = .cells m c) ∨ o.other = true) ∧ H.has k) := fun k hk => by
      rcases hk with ⟨m, c, hk⟩ | ⟨o, hk, ho⟩
      · rcases hcase k _ hk with ⟨a1, a2, a3⟩ | ⟨a1, a2⟩
        · exact .inl ⟨_, a1, a2, a3, .inl ⟨m, c, a3⟩⟩
        · exact .inr ⟨_, a1, a2, .inl ⟨m, c, rfl⟩, .inl ⟨m, c, a2⟩⟩
      · rcases hcase k _ hk with ⟨a1, a2, a3⟩ | ⟨a1, a2⟩
        · exact .inl ⟨_, a1, a2, a3, .inr ⟨o, a3, ho⟩⟩
        · exact .inr ⟨_, a1, a2, .inr ho, .inr ⟨o, a2, ho⟩⟩
    have hsame : ∀ M : Loc, M.blk < w.heap.size → ¬ Own ε (⟨build x.pre, x.nx, G⟩ : IH) M.blk → w'.heap[M.blk]? = w.heap[M.blk]? := fun M h3 h4 => st.frame _ h3 h4
    refine ⟨st.ext, fun k hk => ?_, hnx1, ⟨st.rel.base, fun k hk => ?_, fun k m c M hk hM => ?_, fun k o M hk ho hM => ?_, fun k k' M M' hk hk' hne hM hM' hb => ?_, fun g c hg => ?_⟩, st.size, fun b hb ho => ?_, fun b hb => ?_, st.os, st.tape, st.output, rfl⟩
    · have := st.new k hk
      rw [hn1] at this
      rw [hnx]; exact this
    · rcases hhas k hk with ⟨_, _, h3, _⟩ | ⟨_, _, _, _, h3⟩
      · exact h3
      · have := R.rel.dom k h3
        exact Nat.lt_of_lt_of_le this hnx1
    · rcases hcase k _ hk with ⟨_, _, a3⟩ | ⟨a1, a2⟩
      · exact st.rel.cells k m c M a3 hM
      · obtain ⟨b1, b2, b3⟩ := out k _ a1 a2 (.inl ⟨m, c, rfl⟩)
        rw [b2] at hM
        obtain ⟨b4, b5⟩ := b3 M hM
        obtain ⟨c1, arr, el, c2, c3, c4⟩ := R.rel.cells k m c M a2 hM
        refine ⟨c1, arr, el, by rw [hsame M b4 b5]; exact c2, c3, fun j u hj => ?_⟩
        obtain ⟨d1, d2, d3⟩ := c4 j u hj
        have := den_ext st.ext u d2
        exact ⟨by rw [this.1]; exact d1, this.2, d3⟩
    · rcases hcase k _ hk with ⟨_, _, a3⟩ | ⟨a1, a2⟩
      · exact st.rel.others k o M a3 ho hM
      · obtain ⟨b1, b2, b3⟩ := out k _ a1 a2 (.inr ho)
        rw [b2] at hM
        obtain ⟨b4, b5⟩ := b3 M hM
        obtain ⟨c1, Ro, c2, c3⟩ := R.rel.others k o M a2 ho hM
        exact ⟨c1, Ro, by rw [hsame M b4 b5]; exact c2, c3.ext st.ext⟩
    · rcases hhas k hk with ⟨o, a1, a2, a3, a4⟩ | ⟨o, a1, a2, a3, a4⟩
      · rcases hhas k' hk' with ⟨o', b1, b2, b3, b4⟩ | ⟨o', b1, b2, b3, b4⟩
        · obtain ⟨c, hc⟩ := st.rel.sep k k' M M' a4 b4 hne hM hM' hb
          rw [a3] at hc
          cases hc
          exact ⟨c, by rw [hget, a1]⟩
        · exfalso
          obtain ⟨c1, c2, c3⟩ := out k' o' b1 b2 b3
          rw [c2] at hM'
          obtain ⟨c4, c5⟩ := c3 M' hM'
          rcases st.own M.blk ⟨k, M, a4, hM, rfl⟩ with h3 | h3
          · rw [hb] at h3; exact c5 h3
          · omega
      · obtain ⟨c1, c2, c3⟩ := out k o a1 a2 a3
        rw [c2] at hM
        obtain ⟨c4, c5⟩ := c3 M hM
        rcases hhas k' hk' with ⟨o', b1, b2, b3, b4⟩ | ⟨o', b1, b2, b3, b4⟩
        · exfalso
          rcases st.own M'.blk ⟨k', M', b4, hM', rfl⟩ with h3 | h3
          · rw [← hb] at h3; exact c5 h3
          · omega
        · obtain ⟨d1, d2, d3⟩ := out k' o' b1 b2 b3
          rw [d2] at hM'
          obtain ⟨c, hc⟩ := R.rel.sep k k' M M' a4 b4 hne hM hM' hb
          rw [a2] at hc
          cases hc
          exact ⟨c, by rw [hget, a1]; exact a2⟩
    · have h3 : (x.out H).gl = H1.gl := by
        show H.gl = H1.gl
        rw [R.gl, st.gl]
      rw [h3] at hg
      exact st.rel.gl g c hg
    · refine st.frame b hb (fun ⟨k, M, hk, hM, e⟩ => ho ⟨k, M, phas' k hk, hM, e⟩)
    · obtain ⟨k, M, hk, hM, e⟩ := hb
      rcases hhas k hk with ⟨o, a1, a2, a3, a4⟩ | ⟨o, a1, a2, a3, a4⟩
      · rcases st.own b ⟨k, M, a4, hM, e⟩ with ⟨k1, M1, c1, c2, c3⟩ | h3
        · exact .inl ⟨k1, M1, phas' k1 c1, c2, c3⟩
        · exact .inr h3
      · obtain ⟨c1, c2, c3⟩ := out k o a1 a2 a3
        rw [c2] at hM
        exact .inl ⟨k, M, a4, hM, e⟩

theorem orcHOf_ok {l : List (FuncId × List IV × IV)} (hl : OrcOk P G (orcOf l)) : ∀ (hs : List HEnt), (∀ x, x ∈ hs → HAnswer P G x) → OrcOk P G (orcHOf l hs)
  | [], _ => hl
  | x :: hs, h => fun N ε H w f args v H' R hok hh => by
    rw [orcHOf_cons] at hh
    cases hb : x.here f args H with
    | false =>
      simp only [hb, cond_false] at hh
      exact orcHOf_ok hl hs (fun y hy => h y (by simp [hy])) N ε H w f args v H' R hok hh
    | true =>
      simp only [hb, cond_true, Option.some.injEq, Prod.mk.injEq] at hh
      obtain ⟨rfl, rfl⟩ := hh
      simp only [HEnt.here, Bool.and_eq_true] at hb
      obtain ⟨h1, h2, h3, h4⟩ := hb
      have h1 := Nat.eq_of_beq_eq_true h1
      have h2 := Nat.eq_of_beq_eq_true h2
      have h3 := eqvs_eq (eqv_eq 20) _ _ h3
      have := h x (by simp) N ε H w R h2 (by rw [h3]; exact hok) (fun k o hm => by
        have := List.all_eq_true.1 h4 _ hm
        simp only [heapOk, Bool.and_eq_true] at this
        have h5 := this.2
        split at h5
        · rename_i o' ho
          rw [ho, objEq_eq h5]
        · cases h5)
      rw [h1, h3] at this
      exact this
end
end Go.Proofs.YtpppmgfiidlfjaaGreatDoor.Sim
