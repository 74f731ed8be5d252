/-
  A drawn region is simulated in whatever order.
-/
import Derived.Test.YtpppmgfiidlfjaaGreatDoorSuP
set_option linter.unusedSimpArgs false
set_option linter.unusedVariables false
set_option linter.unusedSectionVars false
namespace Go.Proofs.YtpppmgfiidlfjaaGreatDoor.Sim
section
variable {ty : TypeId → Option TI} {r : Fns} {n : Nat} {ops : Array Oper} {es : List Ent} {Tn : TM} {Hn : IH} {T0 : TM} {H0 : IH} {s : HSt} {A : Nat}
variable {P : Program} {G : Tr (List IV)} {N : Nat} {D : List Deferred} {ε0 : Env} {w0 : World}

theorem put_at {a : Act} {dst : Option Tmp} {v : Value} {t : Nat} (h : dst ≠ some t) : (a.put dst v).tmps.getD t undef = a.tmps.getD t undef := by
  cases dst with
  | none => rfl
  | some d =>
    have : d ≠ t := fun e => h (by rw [e])
    simp [Act.put, Array.getElem?_setIfInBounds_ne this]
theorem put_self {a : Act} {d : Nat} {v : Value} (h : d < a.tmps.size) : (a.put (some d) v).tmps.getD d undef = v := by simp [Act.put, h]
theorem put_size {a : Act} {dst : Option Tmp} {v : Value} : (a.put dst v).tmps.size = a.tmps.size := by cases dst <;> simp [Act.put]

theorem Setup.dst_lt (S : Setup ty r n ops es Tn Hn T0 H0 s A) {i : Nat} {e : Ent} (he : es[i]? = some e) {d : Nat} (hd : e.o.dst = some d) : d < n := by
  have hp := S.spec.put i e he
  rw [hd] at hp
  simp only [putT] at hp
  cases hb : Nat.blt d n with
  | false => simp [hb] at hp
  | true => exact blt_iff.1 hb

/-- One more is done, no allocation that may come at any time. -/
theorem Inv.more (S : Setup ty r n ops es Tn Hn T0 H0 s A) (R0 : Rel G N ε0 H0 w0) {listed : Array Bool} {p p' : Nat} {ε ε' : Env} {a : Act} {w w' : World} {i : Nat} {e : Ent}
    (I : Inv P G N D ε0 w0 n ops es Hn T0 H0 s listed p ε a w) (he : es[i]? = some e) (hi : i < listed.size) (hnd : ¬ Dn listed i)
    (hr : ∀ x, x ∈ e.o.after → Region.binds .any x = true → Dn listed x.on) (st : Step N ε (HA es Hn p) w ε' (HA es Hn p') w') (hv : ok ε' e.v) (hnf : isFlt e = false)
    (hc : (p' = p ∧ chainE e = false) ∨ (p = i ∧ p' = i + 1)) :
    Inv P G N D ε0 w0 n ops es Hn T0 H0 s (listed.setIfInBounds i true) p' ε' (a.put e.o.dst (den ε' e.v)) w' := by
  have hil := (List.getElem?_eq_some_iff.1 he).1
  have hop : ops[i]? = some e.o := by rw [← Array.getElem?_toList]; exact S.spec.op i e he
  have hdst : ∀ {j : Nat} {x : Ent} {d : Nat}, es[j]? = some x → j ≠ i → x.o.dst = some d → e.o.dst ≠ some d := fun hx hne hd h => hne (S.ds.one _ _ _ _ _ hx he hd h)
  have hle : p ≤ p' := by rcases hc with ⟨rfl, _⟩ | ⟨rfl, rfl⟩ <;> omega
  have hnefl : ∀ {f : Nat} {x : Ent}, es[f]? = some x → isFlt x = true → f ≠ i := fun hx hfx e1 => by subst e1; rw [he] at hx; cases hx; rw [hnf] at hfx; cases hfx
  obtain ⟨Lf, hp1, hp2⟩ := I.pend
  refine ⟨by simp [I.size], fun j o x ho hx hb hj => ?_, ?_, fun h hh hx => ?_, fun h hx hd => ?_, I.step.trans st, by rw [put_size]; exact I.tsize, by rw [put_defers]; exact I.defers,
    fun j x d hx hd hdd hcc => ?_, fun t ht => ?_, fun f x hx hfx hdf hlt => ?_, ⟨Lf, fun f x hx hfx hdf hlef => ?_, fun f f' x x' hx hx' hfx hfx' hdf hdf' hlf hlf' hne => ?_⟩⟩
  · rw [dn_set hi] at hj ⊢
    rcases hj with rfl | hj
    · rw [hop] at ho; cases ho
      exact .inr (hr x hx hb)
    · exact .inr (I.closed j o x ho hx hb hj)
  · rcases hc with ⟨rfl, _⟩ | ⟨rfl, rfl⟩
    · exact I.p_le
    · omega
  · rw [dn_set hi]
    rcases hc with ⟨rfl, _⟩ | ⟨rfl, rfl⟩
    · exact .inr (I.before h hh hx)
    · by_cases e1 : h = p
      · exact .inl e1
      · exact .inr (I.before h (by omega) hx)
  · rw [dn_set hi] at hd
    rcases hc with ⟨rfl, hl⟩ | ⟨rfl, rfl⟩
    · rcases hd with rfl | hd
      · obtain ⟨y, hy, hvy⟩ := hx; rw [he] at hy; cases hy; rw [hl] at hvy; cases hvy
      · exact I.after h hx hd
    · rcases hd with rfl | hd
      · omega
      · have := I.after h hx hd; omega
  · rw [dn_set hi] at hd
    by_cases e1 : j = i
    · subst e1
      rw [he] at hx; cases hx
      rw [hdd]
      exact ⟨put_self (by rw [I.tsize]; exact S.dst_lt he hdd), hv⟩
    · have hd' := hd.resolve_left e1
      rw [put_at (hdst hx e1 hdd)]
      have h1 := I.vals j x d hx hd' hdd (by
        rcases hc with ⟨rfl, _⟩ | ⟨rfl, rfl⟩
        · exact hcc
        · rcases hcc with h | h
          · exact .inl (by omega)
          · exact .inr h)
      have h2 := den_ext st.ext _ h1.2
      exact ⟨by rw [h2.1]; exact h1.1, h2.2⟩
  · have hne : e.o.dst ≠ some t := ht i e he ((dn_set hi).2 (.inl rfl))
    rw [put_at hne]
    have h1 := I.init t (fun j x hx hd => ht j x hx ((dn_set hi).2 (.inr hd)))
    have h2 := den_ext st.ext _ h1.2
    exact ⟨by rw [h2.1]; exact h1.1, h2.2⟩
  · have hne := hnefl hx hfx
    have hdf' : ¬ Dn listed f := fun h => hdf ((dn_set hi).2 (.inr h))
    obtain ⟨h1, h2, h3⟩ := I.unborn f x hx hfx hdf' (by rcases hc with ⟨rfl, _⟩ | ⟨rfl, rfl⟩ <;> omega)
    have hnx := st.nx
    refine ⟨?_, h2, by omega⟩
    by_cases e1 : ε' x.H.nx = ε x.H.nx
    · rw [e1]; exact h1
    · have := st.new _ e1; omega
  · have hne := hnefl hx hfx
    obtain ⟨c, hp⟩ := hp1 f x hx hfx (((dn_set hi).1 hdf).resolve_left hne) (by omega)
    exact ⟨c, hp.step st I.step.rel (fun d hdd => put_at (hdst hx hne hdd))⟩
  · exact hp2 f f' x x' hx hx' hfx hfx' (((dn_set hi).1 hdf).resolve_left (hnefl hx hfx)) (((dn_set hi).1 hdf').resolve_left (hnefl hx' hfx')) (by omega) (by omega) hne

/-- What an operation that may be next sees. -/
theorem Inv.sees (S : Setup ty r n ops es Tn Hn T0 H0 s A) {listed : Array Bool} {p : Nat} {ε : Env} {a : Act} {w : World} {i : Nat} {e : Ent}
    (I : Inv P G N D ε0 w0 n ops es Hn T0 H0 s listed p ε a w) (hp : p = es.length ∨ (ChainAt es p ∧ ¬ Dn listed p)) (he : es[i]? = some e) (hnd : ¬ Dn listed i)
    (hr : ∀ x, x ∈ e.o.after → Region.binds .any x = true → Dn listed x.on) {t : Nat} (ht : t ∈ looks ops.toList e.o) : SeesT ε e.T a t := by
  have hil := (List.getElem?_eq_some_iff.1 he).1
  have hop : ops[i]? = some e.o := by rw [← Array.getElem?_toList]; exact S.spec.op i e he
  have hready : ∀ {j : Nat}, bitAt e.tc j = true → Dn listed j := fun hb => by
    refine (S.bel he hb).1.ready I.closed (fun o x ho hx hbx => ?_)
    rw [hop] at ho; cases ho
    exact hr x hx hbx
  obtain ⟨tx1, tx2⟩ := S.text i (by omega)
  rw [TA_at he] at tx1 tx2
  have hl := S.lk i e t he ht
  simp only [lookOk, Bool.or_eq_true, Bool.not_eq_true'] at hl
  have notwritten : (∀ (j : Nat) (x : Ent), es[j]? = some x → x.o.dst = some t → i ≤ j ∧ ¬ Dn listed j) → SeesT ε e.T a t := fun h => by
    have h1 := tx2 t (fun j x hj hx hd => by have := (h j x hx hd).1; omega)
    have h2 := I.init t (fun j x hx hdn hd => (h j x hx hd).2 hdn)
    unfold SeesT
    rw [h1]
    exact h2
  rcases hl with (hl | hl) | hl
  · obtain ⟨j, x, hx, hd, hb⟩ := (S.masks i e he).1.writes t hl
    rw [List.getElem?_take] at hx
    split at hx
    · rename_i hj
      have hdn := hready hb
      have hval := tx1 j x t hj hx hd
      unfold SeesT
      rw [hval]
      refine I.vals j x t hx hdn hd ?_
      cases hfx : isFlt x with
      | false => exact .inr rfl
      | true =>
        left
        by_cases hlt : j < p
        · exact hlt
        · exfalso
          rcases hp with rfl | ⟨hvp, hndp⟩
          · have := (List.getElem?_eq_some_iff.1 hx).1
            omega
          · have hne : p ≠ j := fun e1 => by
              subst e1
              obtain ⟨y, hy, hcy⟩ := hvp
              rw [hx] at hy; cases hy
              rw [flt_chain hfx] at hcy; cases hcy
            exact hndp (hready (S.hv.flt j x hx hfx i e he hj hb p (by omega) hvp))
    · cases hx
  · refine notwritten fun j x hx hd => ?_
    have := S.ds.all j x t hx hd
    rw [hl] at this; cases this
  · obtain ⟨j, x, hx, hd, hji⟩ := laterOf_spec es 0 hl
    have hji : j = i ∨ bitAt x.tc i = true := by simpa using hji
    refine notwritten fun j' x' hx' hd' => ?_
    have := S.ds.one j' j x' x t hx' hx hd' hd
    subst this
    rw [hx] at hx'; cases hx'
    rcases hji with rfl | hb
    · exact ⟨Nat.le_refl _, hnd⟩
    · have h1 := S.bel hx hb
      exact ⟨by omega, fun h => hnd (h1.1.closed I.closed h)⟩

theorem looks_op {o : Oper} {t : Nat} (h : Operand.tmp t ∈ o.op.operands.toList) : t ∈ looks ops.toList o := by
  unfold looks
  refine List.mem_append.2 (.inr (List.mem_filterMap.2 ⟨_, h, rfl⟩))

theorem looks_guard {o : Oper} {j : Nat} {want : Bool} {d : Nat} (hg : o.guard = some (j, want)) (hd : (ops[j]?).bind (·.dst) = some d) : d ∈ looks ops.toList o := by
  unfold looks
  refine List.mem_append.2 (.inl ?_)
  rw [hg]
  simp only [Array.getElem?_toList, hd]
  simp

/-- What was to be allocated is. -/
theorem birthRel {ε : Env} {H : IH} {w w1 : World} {k : Nat} {L : Loc} {c : List IV} (rel : HRel N ε H w) (fr : ε k = none) (hk : H.get k = some (.cells none c))
    (pr : HRel N (upd ε k L) ((⟨.e, k, G⟩ : IH).new (.cells none c)) w1) (hs : w.heap.size ≤ w1.heap.size) (hheap : ∀ b, b < w.heap.size → w1.heap[b]? = w.heap[b]?) (hL : w.heap.size ≤ L.blk) : HRel N (upd ε k L) H w1 := by
  have hext : Ext ε (upd ε k L) := upd_ext fr
  have hnew : ((⟨.e, k, G⟩ : IH).new (.cells none c)).get k = some (.cells none c) := by simp
  have val : ∀ (v : IV), ok ε v → den (upd ε k L) v = den ε v ∧ ok (upd ε k L) v := fun v hv => den_ext hext v hv
  have blk : ∀ k' M, k' ≠ k → H.has k' → upd ε k L k' = some M → ε k' = some M ∧ M.blk < w.heap.size := fun k' M hne hk' hM => by
    simp only [upd, hne, if_false] at hM
    exact ⟨hM, rel.own_lt ⟨k', M, hk', hM, rfl⟩⟩
  refine ⟨Nat.le_trans rel.base hs, rel.dom, fun k' m c1 M hk' hM => ?_, fun k' o M hk' ho hM => ?_, fun k1 k2 M1 M2 hk1 hk2 hn hM1 hM2 hb => ?_, fun g c1 hg => ?_⟩
  · by_cases e : k' = k
    · subst e
      rw [hk] at hk'
      simp only [Option.some.injEq, IObj.cells.injEq] at hk'
      obtain ⟨rfl, rfl⟩ := hk'
      exact pr.cells k' none c M hnew hM
    · obtain ⟨hM', hlt⟩ := blk k' M e (.inl ⟨m, c1, hk'⟩) hM
      obtain ⟨h1, arr, el, h2, h3, h4⟩ := rel.cells k' m c1 M hk' hM'
      exact ⟨h1, arr, el, by rw [hheap _ hlt]; exact h2, h3, fun j v hj => by
        obtain ⟨h5, h6, h7⟩ := h4 j v hj
        have := val v h6
        exact ⟨by rw [this.1]; exact h5, this.2, h7⟩⟩
  · by_cases e : k' = k
    · subst e; rw [hk] at hk'; cases hk'; cases ho
    · obtain ⟨hM', hlt⟩ := blk k' M e (.inr ⟨o, hk', ho⟩) hM
      obtain ⟨h1, R1, h2, h3⟩ := rel.others k' o M hk' ho hM'
      exact ⟨h1, R1, by rw [hheap _ hlt]; exact h2, h3.ext hext⟩
  · by_cases e1 : k1 = k
    · by_cases e2 : k2 = k
      · exact absurd (e1.trans e2.symm) hn
      · obtain ⟨_, hlt⟩ := blk k2 M2 e2 hk2 hM2
        subst e1
        simp [upd] at hM1; subst hM1
        omega
    · obtain ⟨hM1', hlt1⟩ := blk k1 M1 e1 hk1 hM1
      by_cases e2 : k2 = k
      · subst e2
        simp [upd] at hM2; subst hM2
        omega
      · obtain ⟨hM2', _⟩ := blk k2 M2 e2 hk2 hM2
        exact rel.sep k1 k2 M1 M2 hk1 hk2 hn hM1' hM2' hb
  · obtain ⟨h1, arr, el, fr, h2, h3⟩ := rel.gl g c1 hg
    refine ⟨h1, arr, el, fr, by rw [hheap _ (by have := rel.base; omega)]; exact h2, fun j v hj => ?_⟩
    obtain ⟨h5, h6, h7⟩ := h3 j v hj
    have := val v h6
    exact ⟨by rw [this.1]; exact h5, this.2, h7⟩

variable (hty : TysOk P ty)
include hty

/-- An allocation, of which the number alone need be free. -/
theorem sim_flt {ε : Env} {H H' : IH} {w : World} {T : TM} {a : Act} {o : Oper} {v : IV} (hw : HRel N ε H w) (hf : ε H.nx = none) (hs : SeesOp ε T a o.op) (ho : opFloat o.op = true)
    (h : iop ty r T H o.op = some (v, H')) : Does P N ε H w v H' a o := by
  cases he : o.op <;> rw [he] at ho h <;> simp only [opFloat, Bool.false_eq_true] at ho
  case alloc t =>
    simp only [iop, oAlloc, Option.bind_eq_some_iff] at h
    obtain ⟨ti, ht, z, hz, h⟩ := h
    cases hb : z.cells.all IV.single with
    | false => simp [hb] at h
    | true =>
    simp only [hb, cond_true, Option.some.injEq, Prod.mk.injEq] at h
    obtain ⟨rfl, rfl⟩ := h
    have hzr := (hty t ti ht).run_zero hz ε w
    obtain ⟨w', hrow, hst⟩ := sim_newRow (P := P) hw hf (ok_cells hzr.2) hb t
    refine Does.of_value ?_ ⟨_, by simp [upd]; rfl⟩ hst
    simp [execOp, he, Instr.alloc, hzr.1, newVar, den_cells z hzr.2, hrow, den, upd]
  case buildSlice t len parts =>
    simp only [iop, oBuildSlice, Option.bind_eq_some_iff] at h
    obtain ⟨ps, hps, h⟩ := h
    have e1 := evalParts_den (a := a) (ε := ε) (fun x hx => hs x.2 (by rw [he]; simp [Op.operands]; exact ⟨x.1, by simpa using hx⟩)) hps
    obtain ⟨ε', w', hrun, hv, hst⟩ := sim_buildSlice hty hw hf e1.2 h
    refine Does.of_value ?_ hv hst
    have : parts.map (fun x => (x.1, a.eval x.2)) = (ps.map fun x => (x.1, den ε x.2)).toArray := by
      apply Array.ext'; simpa using e1.1
    simp only [execOp, he, this, Sem.run_bind, hrun, Result.andThen_ok, Sem.run_pure]

/-- One operation of a drawn region. -/
theorem Inv.one (hcall : CallOk P G r) (S : Setup ty r n ops es Tn Hn T0 H0 s A) (R0 : Rel G N ε0 H0 w0) {listed : Array Bool} {p : Nat} {ε : Env} {a : Act} {w : World} {i : Nat} {e : Ent}
    (I : Inv P G N D ε0 w0 n ops es Hn T0 H0 s listed p ε a w) (hp : p = es.length ∨ (ChainAt es p ∧ ¬ Dn listed p)) (he : es[i]? = some e) (hi : i < listed.size) (hnd : ¬ Dn listed i)
    (hr : ∀ x, x ∈ e.o.after → Region.binds .any x = true → Dn listed x.on) {Q : Exit → Act → World → Prop} {K : Act → World → Prop}
    (hK : ∀ p' ε' a' w', Inv P G N D ε0 w0 n ops es Hn T0 H0 s (listed.setIfInBounds i true) p' ε' a' w' → K a' w') (ro : Option Nat) : wpOpIn (Fw ro) 1 P ops Q i K a w := by
  have hil := (List.getElem?_eq_some_iff.1 he).1
  have hop : ops[i]? = some e.o := by rw [← Array.getElem?_toList]; exact S.spec.op i e he
  have hready : ∀ {j : Nat}, bitAt e.tc j = true → Dn listed j := fun hb => by
    refine (S.bel he hb).1.ready I.closed (fun o x ho hx hbx => ?_)
    rw [hop] at ho; cases ho
    exact hr x hx hbx
  have hsee : ∀ {t : Nat}, t ∈ looks ops.toList e.o → SeesT ε e.T a t := fun ht => I.sees S hp he hnd hr ht
  have hseesop : SeesOp ε e.T a e.o.op := fun x hx t ht => hsee (looks_op (by rw [← ht]; exact hx))
  have hwant : Region.wanted e.o (yielded ops a.tmps) = e.w := by
    rw [← S.spec.want i e he]
    exact wanted_eq fun j want d hg hd => hsee (looks_guard hg hd)
  have R := R0.step I.step
  unfold wpOpIn
  simp only [hop, hwant]
  have hdst : ∀ {j : Nat} {y : Ent} {d : Nat}, es[j]? = some y → j ≠ i → y.o.dst = some d → e.o.dst ≠ some d := fun hy hne hd h => hne (S.ds.one _ _ _ _ _ hy he hd h)
  cases hf : isFlt e with
  | false =>
    cases hc : chainE e with
    | false =>
      have hv := light_of hf hc
      cases hw : e.w with
      | false =>
        have h0 := (S.spec.run0 i e he hw).1
        have := I.more S R0 he hi hnd hr (Step.refl R.rel) (by rw [h0]; trivial) hf (.inl ⟨rfl, hc⟩)
        rw [h0] at this
        exact ⟨fun _ _ => trivial, hK p ε _ w this⟩
      | true =>
        have h1 := S.spec.run1 i e he hw
        have hrun : iop ty r e.T (HA es Hn p) e.o.op = some (e.v, HA es Hn p) := by
          have hl := hv
          simp only [heavy, Bool.not_eq_false', Bool.or_eq_true] at hl
          rcases hl with hl | hl
          · exact (iop_pure hl h1).2 _
          · obtain ⟨ra, rb⟩ := rdRun_spec es 0 (S.rd i e he hl hw)
            have nobefore : ∀ (h : Nat) (x : Ent), es[h]? = some x → chainE x = true → Dn listed h → bitAt x.tc i = false := fun h x hx hvx hd => by
              cases hb : bitAt x.tc i with
              | false => rfl
              | true => exact absurd ((S.bel hx hb).1.closed I.closed hd) hnd
            have hread : readAt ty r e (HA es Hn p) = true := by
              rcases hp with rfl | ⟨⟨x, hx, hvx⟩, hndp⟩
              · rw [HA_len]
                exact ra fun h x hx hvx => nobefore h x hx hvx (I.before h (List.getElem?_eq_some_iff.1 hx).1 ⟨x, hx, hvx⟩)
              · rw [HA_at hx]
                refine rb p x hx hvx (fun h y hlt hy hvy => nobefore h y hy hvy (I.before h hlt ⟨y, hy, hvy⟩)) (fun j hj hbj => ?_)
                cases hb : bitAt e.tc j with
                | false => rfl
                | true =>
                  exfalso
                  have hdj := hready hb
                  have := I.after j ((S.hv.cm j).1 hbj) hdj
                  omega
            unfold readAt at hread
            split at hread
            · rename_i v' H' hh
              have := eqv_eq 20 _ _ hread
              subst this
              have := iop_read hl hh
              subst this
              exact hh
            · cases hread
        simp only [if_true]
        refine (sim_iop hty R hseesop hcall hrun).wpIn (iop_noDefer hrun) ro 1 K Q fun ε' w' hvv st => ?_
        exact hK p ε' _ w' (I.more S R0 he hi hnd hr st hvv hf (.inl ⟨rfl, hc⟩))
    | true =>
      have hvi : ChainAt es i := ⟨e, he, hc⟩
      have hpi : p ≤ i := by
        rcases Nat.lt_or_ge i p with h | h
        · exact absurd (I.before i h hvi) hnd
        · exact h
      have hpe : p = i := by
        rcases hp with h | ⟨hvp, hndp⟩
        · omega
        · rcases Nat.lt_or_ge p i with h | h
          · exact absurd (hready (S.hv.chain i e he hc p h hvp)) hndp
          · omega
      subst hpe
      have hHp := HA_at (Hn := Hn) he
      cases hw : e.w with
      | false =>
        have h0 := S.spec.run0 p e he hw
        have hst : Step N ε (HA es Hn p) w ε (HA es Hn (p + 1)) w := by
          rw [hHp, h0.2]
          have := R.rel
          rw [hHp] at this
          exact Step.refl this
        have := I.more S R0 he hi hnd hr hst (by rw [h0.1]; trivial) hf (.inr ⟨rfl, rfl⟩)
        rw [h0.1] at this
        exact ⟨fun _ _ => trivial, hK (p + 1) ε _ w this⟩
      | true =>
        have h1 := S.spec.run1 p e he hw
        rw [← hHp] at h1
        simp only [if_true]
        refine (sim_iop hty R hseesop hcall h1).wpIn (iop_noDefer h1) ro 1 K Q fun ε' w' hvv st => ?_
        exact hK (p + 1) ε' _ w' (I.more S R0 he hi hnd hr st hvv hf (.inr ⟨rfl, rfl⟩))
  | true =>
    -- an allocation
    obtain ⟨hfl, hw, hg⟩ := isFlt_spec hf
    obtain ⟨c, hcH, hshape, hany⟩ := S.flt he hf
    have hempty : ∀ k, ¬ (⟨.e, e.H.nx, G⟩ : IH).has k := fun k hk => by
      rcases hk with ⟨m, c', h⟩ | ⟨es', h⟩ <;> simp [IH.get] at h
    have hne : p ≠ i := fun e1 => by
      subst e1
      rcases hp with h | ⟨⟨y, hy, hcy⟩, _⟩
      · omega
      · rw [he] at hy; cases hy; rw [flt_chain hf] at hcy; cases hcy
    have hfree : ε e.H.nx = none := by
      rcases Nat.lt_or_ge p i with h | h
      · rcases hp with h' | ⟨⟨x, hx, hvx⟩, hndp⟩
        · omega
        · refine R.fresh _ ?_
          rw [HA_at hx]
          exact S.nx p i x e (by omega) hx he
      · exact (I.unborn i e he hf hnd (by omega)).1
    have R1 : HRel N ε (⟨.e, e.H.nx, G⟩ : IH) w := R.rel.part R.gl.symm (fun k hk => absurd hk (hempty k)) (fun k o hk => by simp [IH.get] at hk)
    have hrun := hany (⟨.e, e.H.nx, G⟩ : IH) rfl
    simp only [hw, if_true]
    refine (sim_flt hty R1 hfree hseesop hfl hrun).wpIn (iop_noDefer hrun) ro 1 K Q fun ε1 w1 hvv st => ?_
    have hLex : ∃ L, ε1 e.H.nx = some L := by
      rcases hshape with h | ⟨len, sz, h⟩
      · rw [h] at hvv; exact hvv
      · rw [h] at hvv; obtain ⟨L, hL, _⟩ := hvv; exact ⟨L, hL⟩
    obtain ⟨L, hL⟩ := hLex
    have heq : ε1 = upd ε e.H.nx L := by
      funext k
      by_cases e1 : k = e.H.nx
      · subst e1; simp [upd, hL]
      · simp only [upd, e1, if_false]
        by_cases e2 : ε1 k = ε k
        · exact e2
        · have := st.new k e2; simp at this; omega
    subst heq
    have hheap : ∀ b, b < w.heap.size → w1.heap[b]? = w.heap[b]? := fun b hb => st.frame b hb (fun ⟨k, M, hk, _⟩ => hempty k hk)
    have hLge : w.heap.size ≤ L.blk := by
      rcases st.own L.blk ⟨e.H.nx, L, .inl ⟨none, c, by simp⟩, hL, rfl⟩ with ⟨k, M, hk, _⟩ | h
      · exact absurd hk (hempty k)
      · exact h
    have hclosed : Closed ops (Dn (listed.setIfInBounds i true)) := fun j o y ho hy hb hj => by
      rw [dn_set hi] at hj ⊢
      rcases hj with rfl | hj
      · rw [hop] at ho; cases ho
        exact .inr (hr y hy hb)
      · exact .inr (I.closed j o y ho hy hb hj)
    have haft : ∀ h, ChainAt es h → Dn (listed.setIfInBounds i true) h → h < p := fun h hx hd => by
      rw [dn_set hi] at hd
      rcases hd with rfl | hd
      · obtain ⟨y, hy, hcy⟩ := hx
        rw [he] at hy; cases hy; rw [flt_chain hf] at hcy; cases hcy
      · exact I.after h hx hd
    have hgetval : ∀ d, e.o.dst = some d → (a.put e.o.dst (den (upd ε e.H.nx L) e.v)).tmps.getD d undef = den (upd ε e.H.nx L) e.v := fun d hdd => by
      rw [hdd]; exact put_self (by rw [I.tsize]; exact S.dst_lt he hdd)
    obtain ⟨Lf, hp1, hp2⟩ := I.pend
    rcases Nat.lt_or_ge p i with hlt | hge
    · -- an early one
      have hmain : Step N ε (HA es Hn p) w ε (HA es Hn p) w1 := by
        refine ⟨fun _ _ h => h, fun _ h => absurd rfl h, Nat.le_refl _, ?_, st.size, fun b hb _ => hheap b hb, fun _ h => .inl h, st.os, st.tape, st.output, rfl⟩
        refine R.rel.move (fun _ _ h => h) (fun _ _ => rfl) st.size (fun b hb => hheap b ?_)
        rcases hb with hb | hb
        · have := R.rel.base; omega
        · exact R.rel.own_lt hb
      have hpi : Pend G N w0 es Hn ε i e (HA es Hn p) (a.put e.o.dst (den (upd ε e.H.nx L) e.v)) w1 L c := by
        refine ⟨hcH, st.rel, hvv, hgetval, fun ho => ?_, ?_⟩
        · have := R.rel.own_lt ho; omega
        · have := I.step.size; omega
      refine hK p ε _ w1 ⟨by simp [I.size], hclosed, I.p_le, fun h hh hx => (dn_set hi).2 (.inr (I.before h hh hx)), haft, I.step.trans hmain, by rw [put_size]; exact I.tsize,
        by rw [put_defers]; exact I.defers, fun j y d hy hd hdd hcc => ?_, fun t ht => ?_, fun f y hy hfy hdf hltf => I.unborn f y hy hfy (fun h => hdf ((dn_set hi).2 (.inr h))) hltf,
        ⟨fun f => if f = i then L else Lf f, fun f y hy hfy hdf hle => ?_, fun f f' y y' hy hy' hfy hfy' hdf hdf' hle hle' hnn => ?_⟩⟩
      · rw [dn_set hi] at hd
        have e1 : j ≠ i := by
          rintro rfl
          rw [he] at hy; cases hy
          rcases hcc with h | h
          · omega
          · rw [hf] at h; cases h
        rw [put_at (hdst hy e1 hdd)]
        exact I.vals j y d hy (hd.resolve_left e1) hdd hcc
      · have hne : e.o.dst ≠ some t := ht i e he ((dn_set hi).2 (.inl rfl))
        rw [put_at hne]
        exact I.init t (fun j y hy hd => ht j y hy ((dn_set hi).2 (.inr hd)))
      · by_cases e1 : f = i
        · subst e1
          rw [he] at hy; cases hy
          exact ⟨c, by simp only [if_true]; exact hpi⟩
        · obtain ⟨c2, hq⟩ := hp1 f y hy hfy (((dn_set hi).1 hdf).resolve_left e1) hle
          exact ⟨c2, by simp only []; rw [if_neg e1]; exact hq.step hmain R.rel (fun d hdd => put_at (hdst hy e1 hdd))⟩
      · have low : ∀ f y, es[f]? = some y → isFlt y = true → Dn (listed.setIfInBounds i true) f → p ≤ f → f ≠ i → (Lf f).blk < w.heap.size := fun f y hy hfy hdf hle e1 => by
          obtain ⟨c2, hq⟩ := hp1 f y hy hfy (((dn_set hi).1 hdf).resolve_left e1) hle
          exact hq.lt.2
        by_cases e1 : f = i
        · subst e1
          have e2 : f' ≠ f := fun h => hnn h.symm
          simp only [if_true, if_neg e2]
          have := low f' y' hy' hfy' hdf' hle' e2
          omega
        · by_cases e2 : f' = i
          · subst e2
            simp only [if_neg e1, if_true]
            have := low f y hy hfy hdf hle e1
            omega
          · simp only []
            rw [if_neg e1, if_neg e2]
            exact hp2 f f' y y' hy hy' hfy hfy' (((dn_set hi).1 hdf).resolve_left e1) (((dn_set hi).1 hdf').resolve_left e2) hle hle' hnn
    · -- a late one
      have hip : i < p := by omega
      obtain ⟨hu1, hu2, hu3⟩ := I.unborn i e he hf hnd hip
      obtain ⟨c', hc', hltr⟩ := S.lt i e he hf
      have hcc : c' = c := by
        rw [hcH] at hc'
        simp at hc'
        exact hc'.symm
      subst hcc
      obtain ⟨l1, l2⟩ := ltRun_spec _ hltr
      have nob : ∀ (j : Nat) (y : Ent), i + 1 + j < p → (es.drop (i + 1))[j]? = some y → chainE y = true → bitAt y.tc i = false := fun j y hj hy hcy => by
        rw [List.getElem?_drop] at hy
        cases hb : bitAt y.tc i with
        | false => rfl
        | true => exact absurd ((S.bel hy hb).1.closed I.closed (I.before _ hj ⟨y, hy, hcy⟩)) hnd
      have hget : (HA es Hn p).get e.H.nx = some (.cells none c') := by
        rcases hp with rfl | ⟨⟨x, hx, hvx⟩, _⟩
        · rw [HA_len]
          refine l1 fun j y hy hcy => nob j y ?_ hy hcy
          rw [List.getElem?_drop] at hy
          exact (List.getElem?_eq_some_iff.1 hy).1
        · rw [HA_at hx]
          refine l2 (p - (i + 1)) x ?_ hvx fun j y hj hy hcy => nob j y (by omega) hy hcy
          rw [List.getElem?_drop, show i + 1 + (p - (i + 1)) = p from by omega]
          exact hx
      have hrel := birthRel R.rel hfree hget st.rel st.size hheap hLge
      have hext : Ext ε (upd ε e.H.nx L) := upd_ext hfree
      have hst := I.step
      have hst' : Step N ε0 H0 w0 (upd ε e.H.nx L) (HA es Hn p) w1 := by
        refine ⟨fun k M hk => hext k M (hst.ext k M hk), fun k hk => ?_, hst.nx, hrel, Nat.le_trans hst.size st.size, fun b hb ho => by rw [hheap b (Nat.lt_of_lt_of_le hb hst.size)]; exact hst.frame b hb ho,
          fun b hb => ?_, st.os.trans hst.os, st.tape.trans hst.tape, st.output.trans hst.output, hst.gl⟩
        · by_cases e1 : k = e.H.nx
          · subst e1; exact ⟨hu2, hu3⟩
          · simp only [upd, e1, if_false] at hk
            exact hst.new k hk
        · obtain ⟨k, M, hk, hM, rfl⟩ := hb
          by_cases e1 : k = e.H.nx
          · subst e1; simp [upd] at hM; subst hM
            exact .inr (Nat.le_trans hst.size hLge)
          · simp only [upd, e1, if_false] at hM
            exact hst.own _ ⟨k, M, hk, hM, rfl⟩
      refine hK p _ _ w1 ⟨by simp [I.size], hclosed, I.p_le, fun h hh hx => (dn_set hi).2 (.inr (I.before h hh hx)), haft, hst', by rw [put_size]; exact I.tsize,
        by rw [put_defers]; exact I.defers, fun j y d hy hd hdd hcc => ?_, fun t ht => ?_, fun f y hy hfy hdf hltf => ?_,
        ⟨Lf, fun f y hy hfy hdf hle => ?_, fun f f' y y' hy hy' hfy hfy' hdf hdf' hle hle' hnn => ?_⟩⟩
      · by_cases e1 : j = i
        · subst e1
          rw [he] at hy; cases hy
          exact ⟨hgetval d hdd, hvv⟩
        · rw [put_at (hdst hy e1 hdd)]
          have h1 := I.vals j y d hy (((dn_set hi).1 hd).resolve_left e1) hdd hcc
          have h2 := den_ext hext _ h1.2
          exact ⟨by rw [h2.1]; exact h1.1, h2.2⟩
      · have hne : e.o.dst ≠ some t := ht i e he ((dn_set hi).2 (.inl rfl))
        rw [put_at hne]
        have h1 := I.init t (fun j y hy hd => ht j y hy ((dn_set hi).2 (.inr hd)))
        have h2 := den_ext hext _ h1.2
        exact ⟨by rw [h2.1]; exact h1.1, h2.2⟩
      · have e1 : f ≠ i := fun e1 => hdf ((dn_set hi).2 (.inl e1))
        obtain ⟨h1, h2, h3⟩ := I.unborn f y hy hfy (fun h => hdf ((dn_set hi).2 (.inr h))) hltf
        have hnn : y.H.nx ≠ e.H.nx := by
          have after : ∀ {g g' : Nat} {x x' : Ent}, es[g]? = some x → es[g']? = some x' → isFlt x = true → g < g' → x.H.nx < x'.H.nx := fun {g g' x x'} hx hx' hfx hgg => by
            obtain ⟨cx, hxH, _⟩ := S.flt hx hfx
            obtain ⟨z, hz⟩ := get_of_lt (es := es) (i := g + 1) (by have := (List.getElem?_eq_some_iff.1 hx').1; omega)
            have h5 := S.nx (g + 1) g' z x' (by omega) hz hx'
            rw [HA_at hz] at hxH
            rw [hxH] at h5
            simp at h5
            omega
          rcases Nat.lt_or_ge f i with h | h
          · have := after hy he hfy h; omega
          · have := after he hy hf (by omega); omega
        exact ⟨by simp only [upd, hnn, if_false]; exact h1, h2, h3⟩
      · have e1 : f ≠ i := by omega
        obtain ⟨c2, hq⟩ := hp1 f y hy hfy (((dn_set hi).1 hdf).resolve_left e1) hle
        refine ⟨c2, hq.move hext st.size (fun b hb _ => hheap b hb) (fun ho => ?_) R.rel (fun d hdd => put_at (hdst hy e1 hdd))⟩
        obtain ⟨k, M, hk, hM, hb⟩ := ho
        by_cases e2 : k = e.H.nx
        · subst e2
          simp [upd] at hM; subst hM
          have := hq.lt.2
          omega
        · simp only [upd, e2, if_false] at hM
          exact hq.own ⟨k, M, hk, hM, hb⟩
      · exact hp2 f f' y y' hy hy' hfy hfy' (((dn_set hi).1 hdf).resolve_left (by omega)) (((dn_set hi).1 hdf').resolve_left (by omega)) hle hle' hnn

/-- The end of a drawn region. -/
theorem Inv.done {B : Nat} (hB : B ≤ w0.heap.size) (hD : DefOk B ε0 H0 w0 D) (S : Setup ty r n ops es Tn Hn T0 H0 s A) (R0 : Rel G N ε0 H0 w0) {listed : Array Bool} {p : Nat} {ε : Env} {a : Act} {w : World}
    (I : Inv P G N D ε0 w0 n ops es Hn T0 H0 s listed p ε a w) (hr : Region.ready .any ops listed = []) : ∃ ε', FRel B ε' Hn w n Tn a ∧ Step N ε0 H0 w0 ε' Hn w := by
  have hlen : es.length = ops.size := by rw [S.spec.len, Array.length_toList]
  have hall : ∀ i, i < es.length → Dn listed i := by
    intro i
    induction i using Nat.strongRecOn with
    | _ i ih =>
      intro hi
      obtain ⟨e, he⟩ := get_of_lt hi
      have hop : ops[i]? = some e.o := by rw [← Array.getElem?_toList]; exact S.spec.op i e he
      cases hd : listed.getD i false with
      | true => exact hd
      | false =>
        exfalso
        have : i ∈ Region.ready .any ops listed := by
          rw [mem_ready]
          refine ⟨?_, e.o, hop, fun x hx hb => ?_⟩
          · have : i < listed.size := by rw [I.size, ← hlen]; exact hi
            simp [this] at hd ⊢; exact hd
          · have := (S.masks i e he).2 x hx hb
            exact ih x.on this (by omega)
        rw [hr] at this
        cases this
  obtain ⟨p', ε', I', hp'⟩ := I.norm S R0 _ p ε rfl
  have hpl : p' = es.length := by
    rcases hp' with h | ⟨⟨x, hx, _⟩, hnd⟩
    · exact h
    · exact absurd (hall p' (List.getElem?_eq_some_iff.1 hx).1) hnd
  subst hpl
  have hst : Step N ε0 H0 w0 ε' Hn w := by have := I'.step; rw [HA_len] at this; exact this
  refine ⟨ε', ⟨I'.tsize, Nat.le_trans hB hst.size, by rw [I'.defers]; exact hD.step hst, fun t => ?_⟩, hst⟩
  obtain ⟨t1, t2⟩ := S.text es.length (Nat.le_refl _)
  rw [TA_len] at t1 t2
  by_cases h : ∃ (j : Nat) (x : Ent), es[j]? = some x ∧ x.o.dst = some t
  · obtain ⟨j, x, hx, hd⟩ := h
    have hj := (List.getElem?_eq_some_iff.1 hx).1
    rw [t1 j x t hj hx hd]
    exact I'.vals j x t hx (hall j hj) hd (.inl hj)
  · rw [t2 t (fun j x _ hx hd => h ⟨j, x, hx, hd⟩)]
    exact I'.init t (fun j x hx _ hd => h ⟨j, x, hx, hd⟩)

/-- How many are not done. -/
def undone (listed : Array Bool) : Nat := listed.toList.countP (fun b => !b)

omit hty in
theorem undone_set {listed : Array Bool} {i : Nat} (hi : i < listed.size) (h : listed.getD i true = false) : undone (listed.setIfInBounds i true) + 1 = undone listed := by
  unfold undone
  have hi' : i < listed.toList.length := by simpa using hi
  have hb : listed.toList[i] = false := by simpa [hi] using h
  have e1 : (listed.setIfInBounds i true).toList = listed.toList.set i true := by simp
  rw [e1, List.set_eq_take_append_cons_drop, if_pos hi']
  conv => rhs; rw [← List.take_append_drop i listed.toList, List.drop_eq_getElem_cons hi']
  simp only [List.countP_append, List.countP_cons, hb]
  simp; omega

theorem Inv.any {B : Nat} (hB : B ≤ w0.heap.size) (hD : DefOk B ε0 H0 w0 D) (ro : Option Nat) (hcall : CallOk P G r) (S : Setup ty r n ops es Tn Hn T0 H0 s A) (R0 : Rel G N ε0 H0 w0) {Q : Exit → Act → World → Prop} (hQ : ∀ ε' a' w', FRel B ε' Hn w' n Tn a' → Step N ε0 H0 w0 ε' Hn w' → Q .normal a' w') :
    ∀ (fuel : Nat) (listed : Array Bool) (p : Nat) (ε : Env) (a : Act) (w : World), undone listed = fuel → Inv P G N D ε0 w0 n ops es Hn T0 H0 s listed p ε a w → wpAnyIn (Fw ro) 1 P .any ops Q fuel listed a w
  | 0, listed, p, ε, a, w, hf, I => by
    have hr : Region.ready .any ops listed = [] := by
      cases hh : Region.ready .any ops listed with
      | nil => rfl
      | cons i l =>
        have hi : i ∈ Region.ready .any ops listed := by rw [hh]; simp
        obtain ⟨h1, o, ho, _⟩ := mem_ready.1 hi
        have hlt : i < listed.size := by rw [I.size]; exact (Array.getElem?_eq_some_iff.1 ho).1
        have := undone_set hlt h1
        omega
    obtain ⟨ε', h1, h2⟩ := I.done hty hB hD S R0 hr
    exact ⟨hr, hQ ε' a w h1 h2⟩
  | fuel + 1, listed, p, ε, a, w, hf, I => by
    refine ⟨fun hr => ?_, fun i hi => ?_⟩
    · obtain ⟨ε', h1, h2⟩ := I.done hty hB hD S R0 hr
      exact hQ ε' a w h1 h2
    · obtain ⟨h1, o, ho, hready⟩ := mem_ready.1 hi
      have hlt : i < listed.size := by rw [I.size]; exact (Array.getElem?_eq_some_iff.1 ho).1
      have hnd : ¬ Dn listed i := fun h => by unfold Dn at h; simp [hlt] at h h1; rw [h1] at h; cases h
      have hlen : es.length = ops.size := by rw [S.spec.len, Array.length_toList]
      obtain ⟨e, he⟩ := get_of_lt (es := es) (i := i) (by rw [hlen, ← I.size]; exact hlt)
      have hop : ops[i]? = some e.o := by rw [← Array.getElem?_toList]; exact S.spec.op i e he
      rw [hop] at ho; cases ho
      obtain ⟨p', ε', I', hp'⟩ := I.norm S R0 _ p ε rfl
      refine I'.one hty hcall S R0 hp' he hlt hnd (fun x hx hb => hready x hx hb) (fun p1 ε1 a1 w1 I1 => ?_) ro
      exact Inv.any hB hD ro hcall S R0 hQ fuel _ p1 ε1 a1 w1 (by have := undone_set hlt h1; omega) I1

/-- A region whose order is drawn. -/
theorem sim_drawn (hm : P.follows .mixedOrders = true) (hcall : CallOk P G r) : DrawnOk P G ty r := by
  intro n id ops T H T' H' h ro N B ε a w _ hw hf Q hq
  obtain ⟨es, s, A, S⟩ := setup_of h
  refine wpIn_region_any hm ?_
  have hdraw := Step.draw hw.rel (w.drawn + 1)
  have hlen : es.length = ops.size := by rw [S.spec.len, Array.length_toList]
  have hno : ∀ i, ¬ Dn (Array.replicate ops.size false) i := fun i h => by
    unfold Dn at h
    by_cases hi : i < ops.size
    · simp [hi] at h
    · simp [hi] at h
  refine Inv.any (w0 := w) hty hf.base hf.defers ro hcall S hw (fun ε' a' w' h1 h2 => hq ε' a' w' h1 h2) ops.size _ 0 ε a _ ?_ ⟨by simp, fun i o e _ _ _ h => absurd h (hno i), by omega, fun h hh => by omega, fun h _ hd => absurd hd (hno h), ?_, hf.size, rfl,
    fun i e d _ hd => absurd hd (hno i), fun t _ => hf.at_ t, fun f e _ _ _ hlt => by omega, ⟨fun _ => ⟨0, 0, 0⟩, fun f e _ _ hd => absurd hd (hno f), fun f f' e e' _ _ _ _ hd => absurd hd (hno f)⟩⟩
  · simp [undone, List.countP_replicate]
  · have : HA es H' 0 = H := S.spec.h0
    rw [this]
    exact hdraw
end
end Go.Proofs.YtpppmgfiidlfjaaGreatDoor.Sim
