/-
  The machine is sound; answers of flat calls; the tables.
-/
import Derived.Test.YtpppmgfiidlfjaaGreatDoorSuQ
set_option linter.unusedSimpArgs false
set_option linter.unusedVariables false
set_option linter.unusedSectionVars false
namespace Go.Proofs.YtpppmgfiidlfjaaGreatDoor.Sim

/-- A value that is the same whatever block is what. -/
def IV.flat : IV → Bool
  | .b _ | .i _ _ | .s _ => true
  | _ => false

theorem flat_den {v : IV} (h : v.flat = true) (ε ε' : Env) : den ε' v = den ε v ∧ ok ε v := by
  cases v <;> simp [IV.flat] at h <;> exact ⟨rfl, trivial⟩

theorem flat_dens {ε ε' : Env} : ∀ {l : List IV}, l.all IV.flat = true → dens ε' l = dens ε l ∧ oks ε l
  | [], _ => ⟨rfl, trivial⟩
  | v :: l, h => by
    simp only [List.all_cons, Bool.and_eq_true] at h
    have h1 := flat_den h.1 ε ε'
    have h2 := flat_dens (ε := ε) (ε' := ε') h.2
    exact ⟨by simp [dens, h1.1, h2.1], h1.2, h2.2⟩

/-- Package-level variables that hold flat values. -/
def GlFlat (G : Tr (List IV)) : Prop := ∀ (g : Nat) (c : List IV), G.get (bits g) = some c → c.all IV.flat = true

section
variable {P : Program} {G : Tr (List IV)} {ty : TypeId → Option TI} {fns : FuncId → Option IFn} {orc : FuncId → List IV → IH → Option (IV × IH)}

/-- The ideal heap with nothing in it. -/
def H0of (G : Tr (List IV)) : IH := ⟨.e, 0, G⟩

theorem H0_none {G : Tr (List IV)} {k : Nat} : ¬ (H0of G).has k := fun hk => by
  rcases hk with ⟨m, c', h⟩ | ⟨es', h⟩ <;> simp [IH.get, H0of] at h

/-- One program's machine. -/
structure Sound (P : Program) (G : Tr (List IV)) (ty : TypeId → Option TI) (fns : FuncId → Option IFn) : Prop where
  ty : TysOk P ty
  fns : ∀ f fn, fns f = some fn → FnOk P f fn
  mixed : P.follows .mixedOrders = true
  flat : GlFlat G

theorem Sound.calls (S : Sound P G ty fns) (horc : OrcOk P G orc) (k : Nat) : CallOk P G (run ty fns orc k) :=
  (sim_run S.ty S.fns horc (fun r hr => sim_drawn S.ty S.mixed hr) k).1

/-- From any world to the ideal machine with nothing in it. -/
theorem rel_empty {N : Nat} {ε : Env} {H : IH} {w : World} (hG : GlFlat G) (R : Rel G N ε H w) : Rel G w.heap.size (fun _ => none) (H0of G) w := by
  refine ⟨⟨Nat.le_refl _, fun k hk => absurd hk H0_none, fun k m c L hk _ => absurd (.inl ⟨m, c, hk⟩) H0_none, fun k o L hk ho _ => absurd (.inr ⟨o, hk, ho⟩) H0_none, fun k _ _ _ hk => absurd hk H0_none, fun g c hg => ?_⟩, fun _ _ => rfl, rfl⟩
  have hg' : G.get (bits g) = some c := hg
  obtain ⟨h1, arr, el, fr, h2, h3⟩ := R.rel.gl g c (by rw [R.gl]; exact hg')
  refine ⟨Nat.lt_of_lt_of_le h1 R.rel.base, arr, el, fr, h2, fun j v hj => ?_⟩
  obtain ⟨h4, h5, h6⟩ := h3 j v hj
  have hf := flat_den (List.all_eq_true.1 (hG g c hg') v (List.mem_of_getElem? hj)) (fun _ => none) ε
  exact ⟨by rw [← hf.1]; exact h4, hf.2, h6⟩

/-- A call of flat values with a flat answer, run once in the ideal machine. -/
theorem Sound.pure (S : Sound P G ty fns) (horc : OrcOk P G orc) {k : Nat} {f : FuncId} {args : List IV} {v : IV} {H' : IH} (ha : args.all IV.flat = true) (hv : v.flat = true)
    (h : (run ty fns orc k).call f args (H0of G) = some (v, H')) (N : Nat) (ε : Env) (H : IH) (w : World) (R : Rel G N ε H w) :
    Known P f ∧ Calls P f (dens ε args).toArray w (Gives N ε H w v H) := by
  have R0 := rel_empty S.flat R
  have hd := flat_dens (ε := fun _ => none) (ε' := ε) ha
  obtain ⟨h1, h2⟩ := (S.calls horc k).calls _ _ _ w f args v H' R0 hd.2 h
  refine ⟨h1, ?_⟩
  rw [hd.1]
  refine Calls.mono h2 fun e w' he => ?_
  cases e with
  | panicked _ => exact he.elim
  | outgrown => exact he.elim
  | returned u =>
    obtain ⟨ε', hu, _, st⟩ := he
    have hf := flat_den hv ε ε'
    refine ⟨ε, by rw [hu, hf.1], hf.2, ?_⟩
    have hheap : ∀ b, b < w.heap.size → w'.heap[b]? = w.heap[b]? := fun b hb => st.frame b hb (fun ⟨k, M, hk, _⟩ => H0_none hk)
    refine ⟨fun _ _ h => h, fun _ h => absurd rfl h, Nat.le_refl _, ?_, st.size, fun b hb _ => hheap b hb, fun _ h => .inl h, st.os, st.tape, st.output, rfl⟩
    refine R.rel.move (fun _ _ h => h) (fun _ _ => rfl) st.size (fun b hb => hheap b ?_)
    rcases hb with hb | hb
    · have := R.rel.base; omega
    · exact R.rel.own_lt hb

/-- A table of answers. -/
noncomputable def orcOf (l : List (FuncId × List IV × IV)) (f : FuncId) (args : List IV) (H : IH) : Option (IV × IH) :=
  List.rec (motive := fun _ => Option (IV × IH)) none (fun x _ ih => bif Nat.beq x.1 f && eqvs (eqv 2) x.2.1 args then some (x.2.2, H) else ih) l

theorem orcOf_cons (x : FuncId × List IV × IV) (l : List (FuncId × List IV × IV)) (f : FuncId) (args : List IV) (H : IH) : orcOf (x :: l) f args H = bif Nat.beq x.1 f && eqvs (eqv 2) x.2.1 args then some (x.2.2, H) else orcOf l f args H := rfl

/-- An answer that is right in every world. -/
def Answer (P : Program) (G : Tr (List IV)) (x : FuncId × List IV × IV) : Prop :=
  ∀ (N : Nat) (ε : Env) (H : IH) (w : World), Rel G N ε H w → Known P x.1 ∧ Calls P x.1 (dens ε x.2.1).toArray w (Gives N ε H w x.2.2 H)

theorem orcOf_ok : ∀ (l : List (FuncId × List IV × IV)), (∀ x, x ∈ l → Answer P G x) → OrcOk P G (orcOf l)
  | [], _ => fun _ _ _ _ _ _ _ _ _ _ h => by cases h
  | x :: l, hl => fun N ε H w f args v H' R hok h => by
    rw [orcOf_cons] at h
    cases hb : Nat.beq x.1 f && eqvs (eqv 2) x.2.1 args with
    | false =>
      simp only [hb, cond_false] at h
      exact orcOf_ok l (fun y hy => hl y (by simp [hy])) N ε H w f args v H' R hok h
    | true =>
      simp only [hb, cond_true, Option.some.injEq, Prod.mk.injEq] at h
      obtain ⟨rfl, rfl⟩ := h
      simp only [Bool.and_eq_true] at hb
      have h1 := Nat.eq_of_beq_eq_true hb.1
      have h2 := eqvs_eq (eqv_eq 2) _ _ hb.2
      have := hl x (by simp) N ε H w R
      rw [h1, h2] at this
      exact this

theorem Sound.answer (S : Sound P G ty fns) (horc : OrcOk P G orc) {k : Nat} {f : FuncId} {args : List IV} {v : IV} (ha : args.all IV.flat = true) (hv : v.flat = true)
    (h : ((run ty fns orc k).call f args (H0of G)).map (fun x => eqv 2 x.1 v) = some true) : Answer P G (f, args, v) := fun N ε H w R => by
  simp only [Option.map_eq_some_iff] at h
  obtain ⟨⟨v', H'⟩, h1, h2⟩ := h
  have := eqv_eq 2 _ _ h2
  simp only at this
  subst this
  exact S.pure horc ha hv h1 N ε H w R

/- The tables. -/
def tyEq : Ty → Ty → Bool
  | .int a, .int b => a == b
  | .bool, .bool => true
  | .str, .str => true
  | .slice a, .slice b => Nat.beq a b
  | .arr n a, .arr m b => Nat.beq n m && Nat.beq a b
  | .struct l, .struct l' => fldsEq l l'
  | .map a b, .map c d => Nat.beq a c && Nat.beq b d
  | .ptr a, .ptr b => Nat.beq a b
  | .other, .other => true
  | _, _ => false
where fldsEq : List (TypeId × Nat) → List (TypeId × Nat) → Bool
  | [], [] => true
  | x :: l, y :: l' => Nat.beq x.1 y.1 && (Nat.beq x.2 y.2 && fldsEq l l')
  | _, _ => false

theorem fldsEq_eq : ∀ (l l' : List (TypeId × Nat)), tyEq.fldsEq l l' = true → l = l'
  | [], [], _ => rfl
  | [], _ :: _, h => by simp [tyEq.fldsEq] at h
  | _ :: _, [], h => by simp [tyEq.fldsEq] at h
  | (a, b) :: l, (c, d) :: l', h => by
    simp only [tyEq.fldsEq, Bool.and_eq_true] at h
    rw [Nat.eq_of_beq_eq_true h.1, Nat.eq_of_beq_eq_true h.2.1, fldsEq_eq l l' h.2.2]

theorem tyEq_eq {a b : Ty} (h : tyEq a b = true) : a = b := by
  cases a <;> cases b <;> simp only [tyEq, Bool.false_eq_true, Bool.and_eq_true, beq_iff_eq] at h <;> first
    | rfl
    | rw [h]
    | rw [Nat.eq_of_beq_eq_true h]
    | rw [Nat.eq_of_beq_eq_true h.1, Nat.eq_of_beq_eq_true h.2]
    | rw [fldsEq_eq _ _ h]

def zeroOk : Option Value → Option IV → Bool
  | _, none => true
  | some v, some z => match ofVal v with | some z' => eqv 20 z' z | none => false
  | none, some _ => false

def tiOk (P : Program) (x : TypeId × TI) : Bool :=
  match P.info? x.1, P.underlying x.1 with
  | some i, some d => Nat.beq i.size x.2.size && (Nat.beq i.bytes x.2.bytes && (zeroOk i.zero x.2.zero && (tyEq (descTy d) x.2.ty && bif x.2.eq then mayEq P x.1 d else true)))
  | _, _ => false

theorem tiOk_ok {x : TypeId × TI} (h : tiOk P x = true) : TyOk P x.1 x.2 := by
  unfold tiOk at h
  split at h
  · rename_i i d hi hd
    simp only [Bool.and_eq_true] at h
    obtain ⟨h1, h2, h3, h4, h5⟩ := h
    refine ⟨⟨i, hi, Nat.eq_of_beq_eq_true h1, Nat.eq_of_beq_eq_true h2, fun z hz => ?_⟩, ⟨d, hd, tyEq_eq h4, fun he => by rw [he] at h5; exact h5⟩⟩
    rw [hz] at h3
    cases hzz : i.zero with
    | none => rw [hzz] at h3; simp [zeroOk] at h3
    | some v =>
      rw [hzz] at h3
      simp only [zeroOk] at h3
      split at h3
      · rename_i z' hz'
        exact ⟨v, rfl, by rw [hz', eqv_eq 20 _ _ h3]⟩
      · cases h3
  · cases h

theorem build_mem {α : Type} : ∀ (l : List (Nat × α)) (t : Nat) (x : α), (build l).get (bits t) = some x → (t, x) ∈ l
  | [], t, x, h => by simp [build] at h
  | (k, y) :: l, t, x, h => by
    rw [build, get_set] at h
    split at h
    · rename_i e; subst e; cases h; simp
    · exact List.mem_cons_of_mem _ (build_mem l t x h)

theorem tysOk_of {l : List (TypeId × TI)} (h : l.all (tiOk P) = true) : TysOk P (fun t => (build l).get (bits t)) := fun t ti ht =>
  tiOk_ok (List.all_eq_true.1 h (t, ti) (build_mem l t ti ht))

/-- The functions that have a body, none of them the one that the model takes for itself. -/
def nameOk (F : Func) : Bool := !(F.name == "runtime.NumGoroutine")

theorem fnOk_of (h : P.funcs.toList.all nameOk = true) (f : FuncId) (fn : IFn) (hf : fnOf P f = some fn) : FnOk P f fn := by
  simp only [fnOf, Option.bind_eq_some_iff, Option.map_eq_some_iff] at hf
  obtain ⟨F, hF, b, hb, rfl⟩ := hf
  have := List.all_eq_true.1 h F (List.mem_of_getElem? (by rw [Array.getElem?_toList]; exact hF))
  exact ⟨F, hF, hb, rfl, rfl, by simpa [nameOk] using this⟩
end
end Go.Proofs.YtpppmgfiidlfjaaGreatDoor.Sim
