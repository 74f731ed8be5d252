/-
  A drawn region is simulated in whatever order.
-/
import Derived.Test.YtpppmgfiidlfjaaGreatDoorSimP
set_option linter.unusedSimpArgs false
set_option linter.unusedVariables false
set_option linter.unusedSectionVars false
namespace Go.Proofs.YtpppmgfiidlfjaaGreatDoor.Sim
section
variable {ty : TypeId → Option TI} {r : Fns} {n : Nat} {ops : Array Oper} {es : List Ent} {Tn : TM} {Hn : IH} {T0 : TM} {H0 : IH} {s : HSt} {A : Nat}
variable {P : Program} {G : Tr (List IV)} {N : Nat} {ε0 : Env} {w0 : World}

theorem put_at {a : Act} {dst : Option Tmp} {v : Value} {t : Nat} (h : dst ≠ some t) : (a.put dst v).tmps.getD t undef = a.tmps.getD t undef := by
  cases dst with
  | none => rfl
  | some d =>
    have : d ≠ t := fun e => h (by rw [e])
    simp [Act.put, Array.getElem?_setIfInBounds_ne this]
theorem put_self {a : Act} {d : Nat} {v : Value} (h : d < a.tmps.size) : (a.put (some d) v).tmps.getD d undef = v := by simp [Act.put, h]
theorem put_size {a : Act} {dst : Option Tmp} {v : Value} : (a.put dst v).tmps.size = a.tmps.size := by cases dst <;> simp [Act.put]
theorem put_defers' {a : Act} {dst : Option Tmp} {v : Value} : (a.put dst v).defers = a.defers := by cases dst <;> rfl

theorem Setup.dst_lt (S : Setup ty r n ops es Tn Hn T0 H0 s A) {i : Nat} {e : Ent} (he : es[i]? = some e) {d : Nat} (hd : e.o.dst = some d) : d < n := by
  have hp := S.spec.put i e he
  rw [hd] at hp
  simp only [putT] at hp
  cases hb : Nat.blt d n with
  | false => simp [hb] at hp
  | true => exact blt_iff.1 hb

/-- One more is done. -/
theorem Inv.more (S : Setup ty r n ops es Tn Hn T0 H0 s A) (R0 : Rel G N ε0 H0 w0) {listed : Array Bool} {p p' : Nat} {ε ε' : Env} {a : Act} {w w' : World} {i : Nat} {e : Ent}
    (I : Inv P G N ε0 w0 n ops es Hn T0 H0 s listed p ε a w) (he : es[i]? = some e) (hi : i < listed.size) (hnd : ¬ Dn listed i)
    (hr : ∀ x, x ∈ e.o.after → Region.binds .any x = true → Dn listed x.on) (st : Step N ε (HA es Hn p) w ε' (HA es Hn p') w') (hv : ok ε' e.v)
    (hc : (p' = p ∧ heavy e.o = false) ∨ (p = i ∧ p' = i + 1)) :
    Inv P G N ε0 w0 n ops es Hn T0 H0 s (listed.setIfInBounds i true) p' ε' (a.put e.o.dst (den ε' e.v)) w' := by
  have hil := (List.getElem?_eq_some_iff.1 he).1
  have hop : ops[i]? = some e.o := by rw [← Array.getElem?_toList]; exact S.spec.op i e he
  have hdst : ∀ {j : Nat} {x : Ent} {d : Nat}, es[j]? = some x → j ≠ i → x.o.dst = some d → e.o.dst ≠ some d := fun hx hne hd h => hne (S.ds.one _ _ _ _ _ hx he hd h)
  refine ⟨by simp [I.size], fun j o x ho hx hb hj => ?_, ?_, fun h hh hx => ?_, fun h hx hd => ?_, I.step.trans st, by rw [put_size]; exact I.tsize, by rw [put_defers']; exact I.defers,
    fun j x d hx hd hdd hcc => ?_, fun t ht => ?_, fun fi fhm x hf hx hd hle => ?_⟩
  · rw [dn_set hi] at hj ⊢
    rcases hj with rfl | hj
    · rw [hop] at ho; cases ho
      exact .inr (hr x hx hb)
    · exact .inr (I.closed j o x ho hx hb hj)
  · rcases hc with ⟨rfl, _⟩ | ⟨rfl, rfl⟩
    · exact I.p_le
    · omega
  · rw [dn_set hi]
    rcases hc with ⟨rfl, _⟩ | ⟨rfl, rfl⟩
    · exact .inr (I.before h hh hx)
    · by_cases e1 : h = p
      · exact .inl e1
      · exact .inr (I.before h (by omega) hx)
  · rw [dn_set hi] at hd
    rcases hc with ⟨rfl, hl⟩ | ⟨rfl, rfl⟩
    · rcases hd with rfl | hd
      · obtain ⟨y, hy, hvy⟩ := hx; rw [he] at hy; cases hy; rw [hl] at hvy; cases hvy
      · exact I.after h hx hd
    · rcases hd with rfl | hd
      · exact .inl (by omega)
      · rcases I.after h hx hd with h1 | h1
        · exact .inl (by omega)
        · exact .inr h1
  · rw [dn_set hi] at hd
    by_cases e1 : j = i
    · subst e1
      rw [he] at hx; cases hx
      rw [hdd]
      exact ⟨put_self (by rw [I.tsize]; exact S.dst_lt he hdd), hv⟩
    · have hd' := hd.resolve_left e1
      rw [put_at (hdst hx e1 hdd)]
      have h1 := I.vals j x d hx hd' hdd (by
        rcases hc with ⟨rfl, _⟩ | ⟨rfl, rfl⟩
        · exact hcc
        · rcases hcc with h | h
          · exact .inl (by omega)
          · exact .inr h)
      have h2 := den_ext st.ext _ h1.2
      exact ⟨by rw [h2.1]; exact h1.1, h2.2⟩
  · have hne : e.o.dst ≠ some t := ht i e he ((dn_set hi).2 (.inl rfl))
    rw [put_at hne]
    have h1 := I.init t (fun j x hx hd => ht j x hx ((dn_set hi).2 (.inr hd)))
    have h2 := den_ext st.ext _ h1.2
    exact ⟨by rw [h2.1]; exact h1.1, h2.2⟩
  · rw [dn_set hi] at hd
    have hne : fi ≠ i := by
      rintro rfl
      rcases hc with ⟨rfl, hl⟩ | ⟨rfl, rfl⟩
      · rw [he] at hx; cases hx
        obtain ⟨y, hy, hvy⟩ := (S.hv.flt _ _ hf).1; rw [he] at hy; cases hy; rw [hl] at hvy; cases hvy
      · omega
    have hd' := hd.resolve_left hne
    obtain ⟨L, c, hp⟩ := I.pend fi fhm x hf hx hd' (by rcases hc with ⟨rfl, _⟩ | ⟨rfl, rfl⟩ <;> omega)
    exact ⟨L, c, hp.step st I.step.rel (fun d hdd => put_at (hdst hx hne hdd))⟩

/-- What an operation that may be next sees. -/
theorem Inv.sees (S : Setup ty r n ops es Tn Hn T0 H0 s A) {listed : Array Bool} {p : Nat} {ε : Env} {a : Act} {w : World} {i : Nat} {e : Ent}
    (I : Inv P G N ε0 w0 n ops es Hn T0 H0 s listed p ε a w) (hp : p = es.length ∨ (HeavyAt es p ∧ ¬ Dn listed p)) (he : es[i]? = some e) (hnd : ¬ Dn listed i)
    (hr : ∀ x, x ∈ e.o.after → Region.binds .any x = true → Dn listed x.on) {t : Nat} (ht : t ∈ looks ops.toList e.o) : SeesT ε e.T a t := by
  have hil := (List.getElem?_eq_some_iff.1 he).1
  have hop : ops[i]? = some e.o := by rw [← Array.getElem?_toList]; exact S.spec.op i e he
  have hready : ∀ {j : Nat}, bitAt e.tc j = true → Dn listed j := fun hb => by
    refine (S.bel he hb).1.ready I.closed (fun o x ho hx hbx => ?_)
    rw [hop] at ho; cases ho
    exact hr x hx hbx
  obtain ⟨tx1, tx2⟩ := S.text i (by omega)
  rw [TA_at he] at tx1 tx2
  have hl := S.lk i e t he ht
  simp only [lookOk, Bool.or_eq_true, Bool.not_eq_true'] at hl
  have notwritten : (∀ (j : Nat) (x : Ent), es[j]? = some x → x.o.dst = some t → i ≤ j ∧ ¬ Dn listed j) → SeesT ε e.T a t := fun h => by
    have h1 := tx2 t (fun j x hj hx hd => by have := (h j x hx hd).1; omega)
    have h2 := I.init t (fun j x hx hdn hd => (h j x hx hd).2 hdn)
    unfold SeesT
    rw [h1]
    exact h2
  rcases hl with (hl | hl) | hl
  · obtain ⟨j, x, hx, hd, hb⟩ := (S.masks i e he).1.writes t hl
    rw [List.getElem?_take] at hx
    split at hx
    · rename_i hj
      have hdn := hready hb
      have hval := tx1 j x t hj hx hd
      unfold SeesT
      rw [hval]
      refine I.vals j x t hx hdn hd ?_
      cases hvx : heavy x.o with
      | false => exact .inr rfl
      | true =>
        left
        rcases I.after j ⟨x, hx, hvx⟩ hdn with h1 | ⟨fhm, hf⟩
        · exact h1
        · by_cases hlt : j < p
          · exact hlt
          · exfalso
            have hjl : j < es.length := by omega
            rcases hp with rfl | ⟨hvp, hndp⟩
            · omega
            · have hne : p ≠ j := fun e1 => by subst e1; exact hndp hdn
              have := (S.hv.flt j fhm hf).2.2 i e he hj hb p (by omega) hvp
              exact hndp (hready this)
    · cases hx
  · refine notwritten fun j x hx hd => ?_
    have := S.ds.all j x t hx hd
    rw [hl] at this; cases this
  · obtain ⟨j, x, hx, hd, hji⟩ := laterOf_spec es 0 hl
    have hji : j = i ∨ bitAt x.tc i = true := by simpa using hji
    refine notwritten fun j' x' hx' hd' => ?_
    have := S.ds.one j' j x' x t hx' hx hd' hd
    subst this
    rw [hx] at hx'; cases hx'
    rcases hji with rfl | hb
    · exact ⟨Nat.le_refl _, hnd⟩
    · have h1 := S.bel hx hb
      exact ⟨by omega, fun h => hnd (h1.1.closed I.closed h)⟩

theorem looks_op {o : Oper} {t : Nat} (h : Operand.tmp t ∈ o.op.operands.toList) : t ∈ looks ops.toList o := by
  unfold looks
  refine List.mem_append.2 (.inr (List.mem_filterMap.2 ⟨_, h, rfl⟩))

theorem looks_guard {o : Oper} {j : Nat} {want : Bool} {d : Nat} (hg : o.guard = some (j, want)) (hd : (ops[j]?).bind (·.dst) = some d) : d ∈ looks ops.toList o := by
  unfold looks
  refine List.mem_append.2 (.inl ?_)
  rw [hg]
  simp only [Array.getElem?_toList, hd]
  simp

variable (hty : TysOk P ty)
include hty

/-- One operation of a drawn region. -/
theorem Inv.one (hcall : CallOk P G r) (S : Setup ty r n ops es Tn Hn T0 H0 s A) (R0 : Rel G N ε0 H0 w0) {listed : Array Bool} {p : Nat} {ε : Env} {a : Act} {w : World} {i : Nat} {e : Ent}
    (I : Inv P G N ε0 w0 n ops es Hn T0 H0 s listed p ε a w) (hp : p = es.length ∨ (HeavyAt es p ∧ ¬ Dn listed p)) (he : es[i]? = some e) (hi : i < listed.size) (hnd : ¬ Dn listed i)
    (hr : ∀ x, x ∈ e.o.after → Region.binds .any x = true → Dn listed x.on) {Q : Exit → Act → World → Prop} {K : Act → World → Prop}
    (hK : ∀ p' ε' a' w', Inv P G N ε0 w0 n ops es Hn T0 H0 s (listed.setIfInBounds i true) p' ε' a' w' → K a' w') : wpOp P ops Q i K a w := by
  have hil := (List.getElem?_eq_some_iff.1 he).1
  have hop : ops[i]? = some e.o := by rw [← Array.getElem?_toList]; exact S.spec.op i e he
  have hready : ∀ {j : Nat}, bitAt e.tc j = true → Dn listed j := fun hb => by
    refine (S.bel he hb).1.ready I.closed (fun o x ho hx hbx => ?_)
    rw [hop] at ho; cases ho
    exact hr x hx hbx
  have hsee : ∀ {t : Nat}, t ∈ looks ops.toList e.o → SeesT ε e.T a t := fun ht => I.sees S hp he hnd hr ht
  have hseesop : SeesOp ε e.T a e.o.op := fun x hx t ht => hsee (looks_op (by rw [← ht]; exact hx))
  have hwant : Region.wanted e.o (yielded ops a.tmps) = e.w := by
    rw [← S.spec.want i e he]
    exact wanted_eq fun j want d hg hd => hsee (looks_guard hg hd)
  have R := R0.step I.step
  unfold wpOp
  simp only [hop, hwant]
  cases hv : heavy e.o with
  | false =>
    cases hw : e.w with
    | false =>
      have h0 := (S.spec.run0 i e he hw).1
      have := I.more S R0 he hi hnd hr (Step.refl R.rel) (by rw [h0]; trivial) (.inl ⟨rfl, hv⟩)
      rw [h0] at this
      exact hK p ε _ w this
    | true =>
      have h1 := S.spec.run1 i e he hw
      have hrun : iop ty r e.T (HA es Hn p) e.o.op = some (e.v, HA es Hn p) := by
        have hl := hv
        simp only [heavy, Bool.not_eq_false', Bool.or_eq_true] at hl
        rcases hl with hl | hl
        · exact (iop_pure hl h1).2 _
        · obtain ⟨ra, rb⟩ := rdRun_spec es 0 (S.rd i e he hl hw)
          have nobefore : ∀ (h : Nat) (x : Ent), es[h]? = some x → heavy x.o = true → Dn listed h → bitAt x.tc i = false := fun h x hx hvx hd => by
            cases hb : bitAt x.tc i with
            | false => rfl
            | true => exact absurd ((S.bel hx hb).1.closed I.closed hd) hnd
          have hread : readAt ty r e (HA es Hn p) = true := by
            rcases hp with rfl | ⟨⟨x, hx, hvx⟩, hndp⟩
            · rw [HA_len]
              exact ra fun h x hx hvx => nobefore h x hx hvx (I.before h (List.getElem?_eq_some_iff.1 hx).1 ⟨x, hx, hvx⟩)
            · rw [HA_at hx]
              refine rb p x hx hvx (fun h y hlt hy hvy => nobefore h y hy hvy (I.before h hlt ⟨y, hy, hvy⟩)) (fun j hj hbj => ?_)
              cases hb : bitAt e.tc j with
              | false => rfl
              | true =>
                exfalso
                have hdj := hready hb
                have hvj := (S.hv.hm j).1 hbj
                rcases I.after j hvj hdj with h2 | ⟨fhm, hf⟩
                · omega
                · have hne : p ≠ j := fun e1 => by subst e1; exact hndp hdj
                  have hji := (S.bel he hb).2
                  exact hndp (hready ((S.hv.flt j fhm hf).2.2 i e he hji hb p (by omega) ⟨x, hx, hvx⟩))
          unfold readAt at hread
          split at hread
          · rename_i v' H' hh
            have := eqv_eq 20 _ _ hread
            subst this
            have := iop_read hl hh
            subst this
            exact hh
          · cases hread
      simp only [if_true]
      left
      refine sim_iop hty R hseesop hcall hrun K Q fun ε' w' hvv st => ?_
      exact hK p ε' _ w' (I.more S R0 he hi hnd hr st hvv (.inl ⟨rfl, hv⟩))
  | true =>
    have hvi : HeavyAt es i := ⟨e, he, hv⟩
    have hpi : p ≤ i := by
      rcases Nat.lt_or_ge i p with h | h
      · exact absurd (I.before i h hvi) hnd
      · exact h
    have normal : p = i → (if e.w = true then e.o.wp P a w K Q ∨ (e.o.asks P a w ∧ LetsOut Q) else K (a.put e.o.dst undef) w) := fun hpe => by
      subst hpe
      have hHp := HA_at (Hn := Hn) he
      cases hw : e.w with
      | false =>
        have h0 := S.spec.run0 p e he hw
        have hst : Step N ε (HA es Hn p) w ε (HA es Hn (p + 1)) w := by
          rw [hHp, h0.2]
          have := R.rel
          rw [hHp] at this
          exact Step.refl this
        have := I.more S R0 he hi hnd hr hst (by rw [h0.1]; trivial) (.inr ⟨rfl, rfl⟩)
        rw [h0.1] at this
        exact hK (p + 1) ε _ w this
      | true =>
        have h1 := S.spec.run1 p e he hw
        rw [← hHp] at h1
        simp only [if_true]
        left
        refine sim_iop hty R hseesop hcall h1 K Q fun ε' w' hvv st => ?_
        exact hK (p + 1) ε' _ w' (I.more S R0 he hi hnd hr st hvv (.inr ⟨rfl, rfl⟩))
    rcases S.hv.chain i e he hv with hch | ⟨fhm, hf, hfl, hw, hg⟩
    · refine normal ?_
      rcases hp with h | ⟨hvp, hndp⟩
      · omega
      · rcases Nat.lt_or_ge p i with h | h
        · exact absurd (hready (hch p h hvp)) hndp
        · omega
    · by_cases hpe : p = i
      · exact normal hpe
      · -- an early one
        have hlt : p < i := by omega
        rcases hp with h | ⟨⟨x, hx, hvx⟩, hndp⟩
        · omega
        have h1 := S.spec.run1 i e he hw
        obtain ⟨c, hc, hshape, hany⟩ := iop_float hfl h1
        have hnx : (HA es Hn p).nx ≤ e.H.nx := by rw [HA_at hx]; exact S.fl i fhm e hf he p x hx hlt
        have hempty : ∀ k, ¬ (⟨.e, e.H.nx, G⟩ : IH).has k := fun k hk => by
          rcases hk with ⟨m, c', h⟩ | ⟨es', h⟩ <;> simp [IH.get] at h
        have R1 : Rel G N ε (⟨.e, e.H.nx, G⟩ : IH) w := ⟨R.rel.part R.gl.symm (fun k hk => absurd hk (hempty k)) (fun k o hk => by simp [IH.get] at hk), fun k hk => R.fresh k (Nat.le_trans hnx hk), rfl⟩
        have hrun := hany (⟨.e, e.H.nx, G⟩ : IH) rfl
        simp only [hw, if_true]
        left
        refine sim_iop hty R1 hseesop hcall hrun K Q fun ε1 w1 hvv st => ?_
        have hLex : ∃ L, ε1 e.H.nx = some L := by
          rcases hshape with h | ⟨len, sz, h⟩
          · rw [h] at hvv; exact hvv
          · rw [h] at hvv; obtain ⟨L, hL, _⟩ := hvv; exact ⟨L, hL⟩
        obtain ⟨L, hL⟩ := hLex
        have heq : ε1 = upd ε e.H.nx L := by
          funext k
          by_cases e1 : k = e.H.nx
          · subst e1; simp [upd, hL]
          · simp only [upd, e1, if_false]
            by_cases e2 : ε1 k = ε k
            · exact e2
            · have := st.new k e2; simp at this; omega
        subst heq
        have hheap : ∀ b, b < w.heap.size → w1.heap[b]? = w.heap[b]? := fun b hb => st.frame b hb (fun ⟨k, M, hk, _⟩ => hempty k hk)
        have hLge : w.heap.size ≤ L.blk := by
          rcases st.own L.blk ⟨e.H.nx, L, .inl ⟨none, c, by simp⟩, hL, rfl⟩ with ⟨k, M, hk, _⟩ | h
          · exact absurd hk (hempty k)
          · exact h
        have hmain : Step N ε (HA es Hn p) w ε (HA es Hn p) w1 := by
          refine ⟨fun _ _ h => h, fun _ h => absurd rfl h, Nat.le_refl _, ?_, st.size, fun b hb _ => hheap b hb, fun _ h => .inl h, st.os, st.tape, st.output, rfl⟩
          refine R.rel.move (fun _ _ h => h) (fun _ _ => rfl) st.size (fun b hb => hheap b ?_)
          rcases hb with hb | hb
          · have := R.rel.base; omega
          · exact R.rel.own_lt hb
        have hdst : ∀ {j : Nat} {y : Ent} {d : Nat}, es[j]? = some y → j ≠ i → y.o.dst = some d → e.o.dst ≠ some d := fun hy hne hd h => hne (S.ds.one _ _ _ _ _ hy he hd h)
        refine hK p ε _ w1 ⟨by simp [I.size], fun j o y ho hy hb hj => ?_, I.p_le, fun h hh hx => (dn_set hi).2 (.inr (I.before h hh hx)), fun h hx hd => ?_, I.step.trans hmain, by rw [put_size]; exact I.tsize,
          by rw [put_defers']; exact I.defers, fun j y d hy hd hdd hcc => ?_, fun t ht => ?_, fun fi fhm' y hf' hy hd hle => ?_⟩
        · rw [dn_set hi] at hj ⊢
          rcases hj with rfl | hj
          · rw [hop] at ho; cases ho
            exact .inr (hr y hy hb)
          · exact .inr (I.closed j o y ho hy hb hj)
        · rw [dn_set hi] at hd
          rcases hd with rfl | hd
          · exact .inr ⟨fhm, hf⟩
          · exact I.after h hx hd
        · rw [dn_set hi] at hd
          have e1 : j ≠ i := by
            rintro rfl
            rw [he] at hy; cases hy
            rcases hcc with h | h
            · omega
            · rw [hv] at h; cases h
          rw [put_at (hdst hy e1 hdd)]
          exact I.vals j y d hy (hd.resolve_left e1) hdd hcc
        · have hne : e.o.dst ≠ some t := ht i e he ((dn_set hi).2 (.inl rfl))
          rw [put_at hne]
          exact I.init t (fun j y hy hd => ht j y hy ((dn_set hi).2 (.inr hd)))
        · rw [hf] at hf'
          cases hf'
          rw [he] at hy; cases hy
          refine ⟨L, c, hc, st.rel, hvv, fun d hdd => ?_, fun ho => ?_, ?_⟩
          · rw [hdd]; exact put_self (by rw [I.tsize]; exact S.dst_lt he hdd)
          · have := R.rel.own_lt ho; omega
          · have := I.step.size; omega

/-- The end of a drawn region. -/
theorem Inv.done (S : Setup ty r n ops es Tn Hn T0 H0 s A) (R0 : Rel G N ε0 H0 w0) {listed : Array Bool} {p : Nat} {ε : Env} {a : Act} {w : World}
    (I : Inv P G N ε0 w0 n ops es Hn T0 H0 s listed p ε a w) (hr : Region.ready .any ops listed = []) : ∃ ε', FRel ε' n Tn a ∧ Step N ε0 H0 w0 ε' Hn w := by
  have hlen : es.length = ops.size := by rw [S.spec.len, Array.length_toList]
  have hall : ∀ i, i < es.length → Dn listed i := by
    intro i
    induction i using Nat.strongRecOn with
    | _ i ih =>
      intro hi
      obtain ⟨e, he⟩ := get_of_lt hi
      have hop : ops[i]? = some e.o := by rw [← Array.getElem?_toList]; exact S.spec.op i e he
      cases hd : listed.getD i false with
      | true => exact hd
      | false =>
        exfalso
        have : i ∈ Region.ready .any ops listed := by
          rw [mem_ready]
          refine ⟨?_, e.o, hop, fun x hx hb => ?_⟩
          · have : i < listed.size := by rw [I.size, ← hlen]; exact hi
            simp [this] at hd ⊢; exact hd
          · have := (S.masks i e he).2 x hx hb
            exact ih x.on this (by omega)
        rw [hr] at this
        cases this
  obtain ⟨p', ε', I', hp'⟩ := I.norm S R0 _ p ε rfl
  have hpl : p' = es.length := by
    rcases hp' with h | ⟨⟨x, hx, _⟩, hnd⟩
    · exact h
    · exact absurd (hall p' (List.getElem?_eq_some_iff.1 hx).1) hnd
  subst hpl
  refine ⟨ε', ⟨I'.tsize, I'.defers, fun t => ?_⟩, by have := I'.step; rw [HA_len] at this; exact this⟩
  obtain ⟨t1, t2⟩ := S.text es.length (Nat.le_refl _)
  rw [TA_len] at t1 t2
  by_cases h : ∃ (j : Nat) (x : Ent), es[j]? = some x ∧ x.o.dst = some t
  · obtain ⟨j, x, hx, hd⟩ := h
    have hj := (List.getElem?_eq_some_iff.1 hx).1
    rw [t1 j x t hj hx hd]
    exact I'.vals j x t hx (hall j hj) hd (.inl hj)
  · rw [t2 t (fun j x _ hx hd => h ⟨j, x, hx, hd⟩)]
    exact I'.init t (fun j x hx _ hd => h ⟨j, x, hx, hd⟩)

/-- How many are not done. -/
def undone (listed : Array Bool) : Nat := listed.toList.countP (fun b => !b)

omit hty in
theorem undone_set {listed : Array Bool} {i : Nat} (hi : i < listed.size) (h : listed.getD i true = false) : undone (listed.setIfInBounds i true) + 1 = undone listed := by
  unfold undone
  have hi' : i < listed.toList.length := by simpa using hi
  have hb : listed.toList[i] = false := by simpa [hi] using h
  have e1 : (listed.setIfInBounds i true).toList = listed.toList.set i true := by simp
  rw [e1, List.set_eq_take_append_cons_drop, if_pos hi']
  conv => rhs; rw [← List.take_append_drop i listed.toList, List.drop_eq_getElem_cons hi']
  simp only [List.countP_append, List.countP_cons, hb]
  simp; omega

theorem Inv.any (hcall : CallOk P G r) (S : Setup ty r n ops es Tn Hn T0 H0 s A) (R0 : Rel G N ε0 H0 w0) {Q : Exit → Act → World → Prop} (hQ : ∀ ε' a' w', FRel ε' n Tn a' → Step N ε0 H0 w0 ε' Hn w' → Q .normal a' w') :
    ∀ (fuel : Nat) (listed : Array Bool) (p : Nat) (ε : Env) (a : Act) (w : World), undone listed = fuel → Inv P G N ε0 w0 n ops es Hn T0 H0 s listed p ε a w → wpAny P .any ops Q fuel listed a w
  | 0, listed, p, ε, a, w, hf, I => by
    have hr : Region.ready .any ops listed = [] := by
      cases hh : Region.ready .any ops listed with
      | nil => rfl
      | cons i l =>
        have hi : i ∈ Region.ready .any ops listed := by rw [hh]; simp
        obtain ⟨h1, o, ho, _⟩ := mem_ready.1 hi
        have hlt : i < listed.size := by rw [I.size]; exact (Array.getElem?_eq_some_iff.1 ho).1
        have := undone_set hlt h1
        omega
    obtain ⟨ε', h1, h2⟩ := I.done hty S R0 hr
    exact ⟨hr, hQ ε' a w h1 h2⟩
  | fuel + 1, listed, p, ε, a, w, hf, I => by
    refine ⟨fun hr => ?_, fun i hi => ?_⟩
    · obtain ⟨ε', h1, h2⟩ := I.done hty S R0 hr
      exact hQ ε' a w h1 h2
    · obtain ⟨h1, o, ho, hready⟩ := mem_ready.1 hi
      have hlt : i < listed.size := by rw [I.size]; exact (Array.getElem?_eq_some_iff.1 ho).1
      have hnd : ¬ Dn listed i := fun h => by unfold Dn at h; simp [hlt] at h h1; rw [h1] at h; cases h
      have hlen : es.length = ops.size := by rw [S.spec.len, Array.length_toList]
      obtain ⟨e, he⟩ := get_of_lt (es := es) (i := i) (by rw [hlen, ← I.size]; exact hlt)
      have hop : ops[i]? = some e.o := by rw [← Array.getElem?_toList]; exact S.spec.op i e he
      rw [hop] at ho; cases ho
      obtain ⟨p', ε', I', hp'⟩ := I.norm S R0 _ p ε rfl
      refine I'.one hty hcall S R0 hp' he hlt hnd (fun x hx hb => hready x hx hb) fun p1 ε1 a1 w1 I1 => ?_
      exact Inv.any hcall S R0 hQ fuel _ p1 ε1 a1 w1 (by have := undone_set hlt h1; omega) I1

/-- A region whose order is drawn. -/
theorem sim_drawn (hm : P.follows .mixedOrders = true) (hcall : CallOk P G r) : DrawnOk P G ty r := by
  intro n id ops T H T' H' h N ε a w hw hf Q hq
  obtain ⟨es, s, A, S⟩ := setup_of h
  refine wp_region_any hm ?_
  have hdraw := Step.draw hw.rel (w.drawn + 1)
  have hlen : es.length = ops.size := by rw [S.spec.len, Array.length_toList]
  have hno : ∀ i, ¬ Dn (Array.replicate ops.size false) i := fun i h => by
    unfold Dn at h
    by_cases hi : i < ops.size
    · simp [hi] at h
    · simp [hi] at h
  refine Inv.any (w0 := w) hty hcall S hw (fun ε' a' w' h1 h2 => hq ε' a' w' h1 h2) ops.size _ 0 ε a _ ?_ ⟨by simp, fun i o e _ _ _ h => absurd h (hno i), by omega, fun h hh => by omega, fun h _ hd => absurd hd (hno h), ?_, hf.size, hf.defers,
    fun i e d _ hd => absurd hd (hno i), fun t _ => hf.at_ t, fun fi _ _ _ _ hd => absurd hd (hno fi)⟩
  · simp [undone, List.countP_replicate]
  · have : HA es H' 0 = H := S.spec.h0
    rw [this]
    exact hdraw
end
end Go.Proofs.YtpppmgfiidlfjaaGreatDoor.Sim
