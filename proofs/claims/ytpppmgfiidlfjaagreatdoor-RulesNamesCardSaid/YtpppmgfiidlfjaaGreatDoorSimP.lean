/-
  What holds between the operations of a drawn region.
-/
import Derived.Test.YtpppmgfiidlfjaaGreatDoorSimO
set_option linter.unusedSimpArgs false
set_option linter.unusedVariables false
set_option linter.unusedSectionVars false
namespace Go.Proofs.YtpppmgfiidlfjaaGreatDoor.Sim

/-- What is known of the run and of the checks. -/
structure Setup (ty : TypeId → Option TI) (r : Fns) (n : Nat) (ops : Array Oper) (es : List Ent) (Tn : TM) (Hn : IH) (T0 : TM) (H0 : IH) (s : HSt) (A : Nat) : Prop where
  spec : TrSpec ty r n ops.toList Tn Hn [] es ops.toList T0 H0
  hv : HvSpec es s
  ds : DsSpec es A
  lk : ∀ (i : Nat) (e : Ent) (t : Nat), es[i]? = some e → t ∈ looks ops.toList e.o → lookOk es A i e t = true
  rd : ∀ (i : Nat) (e : Ent), es[i]? = some e → opRead e.o.op = true → e.w = true → rdRun ty r s.hm Hn i e es 0 = true
  fl : ∀ (fi fhm : Nat) (e : Ent), s.f = some (fi, fhm) → es[fi]? = some e → ∀ (i : Nat) (x : Ent), es[i]? = some x → i < fi → x.H.nx ≤ e.H.nx

section
variable {ty : TypeId → Option TI} {r : Fns} {n : Nat} {ops : Array Oper} {es : List Ent} {Tn : TM} {Hn : IH} {T0 : TM} {H0 : IH} {s : HSt} {A : Nat}

theorem setup_of {T' : TM} {H' : IH} (h : idrawn ty r n ops.toList T0 H0 = some (T', H')) : ∃ es s A, Setup ty r n ops es T' H' T0 H0 s A := by
  simp only [idrawn, Option.bind_eq_some_iff] at h
  obtain ⟨⟨es, Tn, Hn⟩, h1, h⟩ := h
  cases hb : drawnOk ty r ops.toList es Hn with
  | false => simp [hb] at h
  | true =>
    simp only [hb, cond_true, Option.some.injEq, Prod.mk.injEq] at h
    obtain ⟨rfl, rfl⟩ := h
    obtain ⟨m, hm, hc⟩ := trRun_chain _ _ _ _ _ h1
    simp only [List.nil_append] at hm
    subst hm
    unfold drawnOk at hb
    split at hb
    · cases hb
    · rename_i s hs
      split at hb
      · cases hb
      · rename_i A hA
        simp only [Bool.and_eq_true] at hb
        have hv : HvSpec es s := by
          have := hvRun_spec es [] ⟨0, 0, none⟩ s ⟨rfl, fun h => by simp [HeavyAt], fun i e hi => by simp at hi, fun fi fhm hf => by simp at hf⟩ hs
          simpa using this
        have ds : DsSpec es A := by
          have := dsRun_spec es [] 0 A ⟨fun i j e x d hi => by simp at hi, fun i e d hi => by simp at hi⟩ hA
          simpa using this
        refine ⟨es, s, A, chain_spec _ _ _ _ _ hc, hv, ds, fun i e t hi ht => ?_, fun i e hi hr hw => ?_, fun fi fhm e hf he i x hx hlt => ?_⟩
        · have := lkRun_spec es 0 hb.1 i e t hi ht
          simpa using this
        · have := rdAll_spec es 0 hb.2.1 i e hi hr hw
          simpa using this
        · have h3 := hb.2.2
          rw [hf] at h3
          simp only [fltOk, nth_eq, he] at h3
          exact nxOk_spec es 0 h3 i x hx (by omega)

theorem Setup.masks (S : Setup ty r n ops es Tn Hn T0 H0 s A) : ∀ (i : Nat) (e : Ent), es[i]? = some e → Masks ops (es.take i) i e.tc e.dm ∧ ∀ x, x ∈ e.o.after → Region.binds .any x = true → x.on < i := by
  intro i
  induction i using Nat.strongRecOn with
  | _ i ih =>
    intro e he
    have hb := S.spec.bel i e he
    rw [List.nil_append] at hb
    have ho : ops[i]? = some e.o := by rw [← Array.getElem?_toList]; exact S.spec.op i e he
    have hi := (List.getElem?_eq_some_iff.1 he).1
    have hl : (es.take i).length = i := by simp; omega
    have := below_masks ho (es := es.take i) (fun j x hx => by
      rw [List.getElem?_take] at hx
      split at hx
      · rename_i hj
        have := (ih j hj x hx).1
        rw [List.take_take, Nat.min_eq_left (by omega)]
        exact this
      · cases hx) _ _ _ (fun x hx => by simpa using hx) hb
    exact ⟨this.1, fun x hx hbx => by have := this.2 x (by simpa using hx) hbx; omega⟩

theorem Setup.bel (S : Setup ty r n ops es Tn Hn T0 H0 s A) {i j : Nat} {e : Ent} (he : es[i]? = some e) (h : bitAt e.tc j = true) : Bel ops i j ∧ j < i := by
  have := (S.masks i e he).1.below j h
  refine ⟨this.1, ?_⟩
  have h2 := this.2
  simp at h2; omega

theorem Setup.light (S : Setup ty r n ops es Tn Hn T0 H0 s A) {i : Nat} {e : Ent} (he : es[i]? = some e) (hl : heavy e.o = false) : HA es Hn (i + 1) = e.H := by
  cases hw : e.w with
  | false => exact (S.spec.run0 i e he hw).2
  | true =>
    have := S.spec.run1 i e he hw
    simp only [heavy, Bool.not_eq_false', Bool.or_eq_true] at hl
    rcases hl with hl | hl
    · exact (iop_pure hl this).1
    · exact iop_read hl this

theorem HA_at {i : Nat} {e : Ent} (he : es[i]? = some e) : HA es Hn i = e.H := by simp [HA, he]
theorem TA_at {i : Nat} {e : Ent} (he : es[i]? = some e) : TA es Tn i = e.T := by simp [TA, he]
theorem HA_len : HA es Hn es.length = Hn := by simp [HA]
theorem TA_len : TA es Tn es.length = Tn := by simp [TA]

theorem get_of_lt {i : Nat} (h : i < es.length) : ∃ e, es[i]? = some e := ⟨es[i], List.getElem?_eq_getElem h⟩

/-- What a temporary holds in the order of the text. -/
theorem Setup.text (S : Setup ty r n ops es Tn Hn T0 H0 s A) : ∀ i, i ≤ es.length →
    (∀ (j : Nat) (x : Ent) (d : Nat), j < i → es[j]? = some x → x.o.dst = some d → (TA es Tn i).at d = x.v) ∧
    (∀ t, (∀ (j : Nat) (x : Ent), j < i → es[j]? = some x → x.o.dst ≠ some t) → (TA es Tn i).at t = T0.at t)
  | 0, _ => ⟨fun j x d hj => by omega, fun t _ => by rw [S.spec.t0]⟩
  | i + 1, hi => by
    obtain ⟨h1, h2⟩ := S.text i (by omega)
    obtain ⟨e, he⟩ := get_of_lt (es := es) (i := i) (by omega)
    have hp := S.spec.put i e he
    rw [← TA_at (Tn := Tn) he] at hp
    have hset : ∀ t, (TA es Tn (i + 1)).at t = if e.o.dst = some t then e.v else (TA es Tn i).at t := fun t => by
      cases hd : e.o.dst with
      | none => rw [hd] at hp; simp only [putT, Option.some.injEq] at hp; rw [← hp]; simp
      | some d =>
        rw [hd] at hp
        simp only [putT] at hp
        cases hb : Nat.blt d n with
        | false => simp [hb] at hp
        | true =>
          simp only [hb, cond_true, Option.some.injEq] at hp
          rw [← hp, at_set]
          simp
    refine ⟨fun j x d hj hx hd => ?_, fun t ht => ?_⟩
    · rw [hset]
      by_cases e1 : e.o.dst = some d
      · have := S.ds.one i j e x d he hx e1 hd
        subst this
        rw [he] at hx; cases hx
        rw [if_pos e1]
      · rw [if_neg e1]
        have hne : j ≠ i := fun h => by subst h; rw [he] at hx; cases hx; exact e1 hd
        exact h1 j x d (by omega) hx hd
    · rw [hset, if_neg (ht i e (by omega) he)]
      exact h2 t (fun j x hj hx => ht j x (by omega) hx)

def Dn (listed : Array Bool) (j : Nat) : Prop := listed.getD j false = true

theorem dn_set {listed : Array Bool} {i j : Nat} (hi : i < listed.size) : Dn (listed.setIfInBounds i true) j ↔ j = i ∨ Dn listed j := by
  unfold Dn
  by_cases h : i = j
  · subst h
    simp [hi]
  · rw [getD_set_ne false h]
    constructor
    · exact .inr
    · rintro (h1 | h1)
      · exact absurd h1.symm h
      · exact h1

/-- An early one that is not yet told to the ideal machine. -/
structure Pend (G : Tr (List IV)) (N : Nat) (w0 : World) (es : List Ent) (Hn : IH) (ε : Env) (fi : Nat) (e : Ent) (Hp : IH) (a : Act) (w : World) (L : Loc) (c : List IV) : Prop where
  hc : HA es Hn (fi + 1) = e.H.new (.cells none c)
  rel : HRel N (upd ε e.H.nx L) ((⟨.e, e.H.nx, G⟩ : IH).new (.cells none c)) w
  okv : ok (upd ε e.H.nx L) e.v
  val : ∀ d, e.o.dst = some d → a.tmps.getD d undef = den (upd ε e.H.nx L) e.v
  own : ¬ Own ε Hp L.blk
  ge : w0.heap.size ≤ L.blk

theorem new_has {nx : Nat} {G : Tr (List IV)} {c : List IV} {k : Nat} : ((⟨.e, nx, G⟩ : IH).new (.cells none c)).has k → k = nx := by
  rintro (⟨m, c', h⟩ | ⟨es, h⟩)
  · rw [IH.get_new] at h
    split at h
    · rename_i e; exact e.symm
    · simp [IH.get] at h
  · rw [IH.get_new] at h
    split at h
    · cases h
    · simp [IH.get] at h

theorem new_self {H : IH} {c : List IV} : (H.new (.cells none c)).get H.nx = some (.cells none c) := by simp

variable {P : Program} {G : Tr (List IV)} {N : Nat} {ε0 : Env} {w0 : World}

theorem Pend.lt {ε : Env} {fi : Nat} {e : Ent} {Hp : IH} {a : Act} {w : World} {L : Loc} {c : List IV} (p : Pend G N w0 es Hn ε fi e Hp a w L c) : N ≤ L.blk ∧ L.blk < w.heap.size := by
  have h1 := p.rel.cells e.H.nx none c L (by simp) (by simp [upd])
  obtain ⟨h2, arr, el, h3, _⟩ := h1
  exact ⟨h2, (Array.getElem?_eq_some_iff.1 h3).1⟩

/-- It stays when the ideal heap does a step. -/
theorem Pend.step {ε ε' : Env} {fi : Nat} {e : Ent} {Hp Hp' : IH} {a a' : Act} {w w' : World} {L : Loc} {c : List IV} (p : Pend G N w0 es Hn ε fi e Hp a w L c)
    (st : Step N ε Hp w ε' Hp' w') (rel : HRel N ε Hp w) (ha : ∀ d, e.o.dst = some d → a'.tmps.getD d undef = a.tmps.getD d undef) : Pend G N w0 es Hn ε' fi e Hp' a' w' L c := by
  have hlt := p.lt
  have hext : Ext (upd ε e.H.nx L) (upd ε' e.H.nx L) := fun k M hk => by
    unfold upd at hk ⊢
    by_cases e1 : k = e.H.nx
    · rw [if_pos e1] at hk ⊢; exact hk
    · rw [if_neg e1] at hk ⊢; exact st.ext k M hk
  have hv := den_ext hext _ p.okv
  refine ⟨p.hc, ?_, hv.2, fun d hd => by rw [ha d hd, p.val d hd, hv.1], fun ho => ?_, p.ge⟩
  · refine p.rel.move hext (fun k hk => ?_) st.size (fun b hb => ?_)
    · have := new_has hk
      subst this
      simp [upd]
    · rcases hb with hb | ⟨k, M, hk, hM, rfl⟩
      · refine st.frame b (by have := rel.base; omega) (fun ho => ?_)
        have := rel.own_ge ho; omega
      · have := new_has hk
        subst this
        simp [upd] at hM
        subst hM
        exact st.frame _ hlt.2 p.own
  · rcases st.own _ ho with h | h
    · exact p.own h
    · omega

/-- What holds between the operations, once some are done. -/
structure Inv (P : Program) (G : Tr (List IV)) (N : Nat) (ε0 : Env) (w0 : World) (n : Nat) (ops : Array Oper) (es : List Ent) (Hn : IH) (T0 : TM) (H0 : IH) (s : HSt)
    (listed : Array Bool) (p : Nat) (ε : Env) (a : Act) (w : World) : Prop where
  size : listed.size = ops.size
  closed : Closed ops (Dn listed)
  p_le : p ≤ es.length
  before : ∀ h, h < p → HeavyAt es h → Dn listed h
  after : ∀ h, HeavyAt es h → Dn listed h → h < p ∨ ∃ fhm, s.f = some (h, fhm)
  step : Step N ε0 H0 w0 ε (HA es Hn p) w
  tsize : a.tmps.size = n
  defers : a.defers = []
  vals : ∀ (i : Nat) (e : Ent) (d : Nat), es[i]? = some e → Dn listed i → e.o.dst = some d → (i < p ∨ heavy e.o = false) → a.tmps.getD d undef = den ε e.v ∧ ok ε e.v
  init : ∀ t, (∀ (i : Nat) (e : Ent), es[i]? = some e → Dn listed i → e.o.dst ≠ some t) → a.tmps.getD t undef = den ε (T0.at t) ∧ ok ε (T0.at t)
  pend : ∀ (fi fhm : Nat) (e : Ent), s.f = some (fi, fhm) → es[fi]? = some e → Dn listed fi → p ≤ fi → ∃ L c, Pend G N w0 es Hn ε fi e (HA es Hn p) a w L c

/-- The early one is told to the ideal machine. -/
theorem commit {ε : Env} {H : IH} {w : World} {L : Loc} {c : List IV} (rel : HRel N ε H w) (fr : ε H.nx = none) (hG : H.gl = G)
    (pr : HRel N (upd ε H.nx L) ((⟨.e, H.nx, G⟩ : IH).new (.cells none c)) w) (own : ¬ Own ε H L.blk) : HRel N (upd ε H.nx L) (H.new (.cells none c)) w := by
  have hne : ∀ k, H.has k → k ≠ H.nx := fun k hk e => by have := rel.dom k hk; omega
  have hm := rel.move (upd_ext (L := L) fr) (fun k hk => by simp [upd, hne k hk]) (Nat.le_refl _) (fun _ _ => rfl)
  have hold : ∀ k, k ≠ H.nx → (H.new (.cells none c)).get k = H.get k := fun k hk => by simp [Ne.symm hk]
  have hhas : ∀ k, (H.new (.cells none c)).has k → k = H.nx ∨ H.has k := fun k hk => by
    by_cases e : k = H.nx
    · exact .inl e
    · right; unfold IH.has at *; rw [hold k e] at hk; exact hk
  have hnew : ((⟨.e, H.nx, G⟩ : IH).new (.cells none c)).get H.nx = some (.cells none c) := by simp
  have blk : ∀ k M, H.has k → upd ε H.nx L k = some M → M.blk ≠ L.blk := fun k M hk hM e => by
    simp only [upd, hne k hk, if_false] at hM
    exact own ⟨k, M, hk, hM, e⟩
  refine ⟨rel.base, fun k hk => ?_, fun k m c1 M hk hM => ?_, fun k es M hk hM => ?_, fun k k' M M' hk hk' hn hM hM' hb => ?_, ?_⟩
  · rcases hhas k hk with e | e
    · simp [e]
    · have := rel.dom k e; simp; omega
  · by_cases e : k = H.nx
    · subst e
      simp at hk
      obtain ⟨rfl, rfl⟩ := hk
      exact pr.cells H.nx none c M hnew hM
    · rw [hold k e] at hk; exact hm.cells k m c1 M hk hM
  · by_cases e : k = H.nx
    · subst e; simp at hk
    · rw [hold k e] at hk; exact hm.maps k es M hk hM
  · rcases hhas k hk with e | e
    · rcases hhas k' hk' with e' | e'
      · exact absurd (e.trans e'.symm) hn
      · subst e
        simp [upd] at hM; subst hM
        exact absurd hb.symm (blk k' M' e' hM')
    · rcases hhas k' hk' with e' | e'
      · subst e'
        simp [upd] at hM'; subst hM'
        exact absurd hb (blk k M e hM)
      · obtain ⟨c', hc'⟩ := hm.sep k k' M M' e e' hn hM hM' hb
        exact ⟨c', by rw [hold k (hne k e)]; exact hc'⟩
  · exact hm.gl

/-- The ideal machine goes on to the next heavy one that is not done. -/
theorem Inv.norm (S : Setup ty r n ops es Tn Hn T0 H0 s A) (R0 : Rel G N ε0 H0 w0) {listed : Array Bool} {a : Act} {w : World} : ∀ (k p : Nat) (ε : Env), es.length - p = k →
    Inv P G N ε0 w0 n ops es Hn T0 H0 s listed p ε a w → ∃ p' ε', Inv P G N ε0 w0 n ops es Hn T0 H0 s listed p' ε' a w ∧ (p' = es.length ∨ (HeavyAt es p' ∧ ¬ Dn listed p')) := by
  intro k
  induction k with
  | zero => intro p ε hk I; exact ⟨p, ε, I, .inl (by have := I.p_le; omega)⟩
  | succ k ih =>
    intro p ε hk I
    obtain ⟨e, he⟩ := get_of_lt (es := es) (i := p) (by omega)
    have hHp := HA_at (Hn := Hn) he
    cases hv : heavy e.o with
    | false =>
      have hH : HA es Hn (p + 1) = HA es Hn p := by rw [S.light he hv, hHp]
      refine ih (p + 1) ε (by omega) ⟨I.size, I.closed, by omega, fun h hh hx => ?_, fun h hx hd => ?_, by rw [hH]; exact I.step, I.tsize, I.defers, fun i x d hx hd hdd hc => ?_, I.init, fun fi fhm x hf hx hd hle => ?_⟩
      · by_cases e1 : h = p
        · subst e1; obtain ⟨y, hy, hvy⟩ := hx; rw [he] at hy; cases hy; rw [hv] at hvy; cases hvy
        · exact I.before h (by omega) hx
      · rcases I.after h hx hd with h1 | h1
        · exact .inl (by omega)
        · exact .inr h1
      · refine I.vals i x d hx hd hdd ?_
        rcases hc with hc | hc
        · by_cases e1 : i = p
          · subst e1; rw [he] at hx; cases hx; exact .inr hv
          · exact .inl (by omega)
        · exact .inr hc
      · obtain ⟨L, c, hp⟩ := I.pend fi fhm x hf hx hd (by omega)
        exact ⟨L, c, by rw [hH]; exact hp⟩
    | true =>
      by_cases hd : Dn listed p
      · rcases I.after p ⟨e, he, hv⟩ hd with h1 | ⟨fhm, hf⟩
        · omega
        · obtain ⟨L, c, hp⟩ := I.pend p fhm e hf he hd (Nat.le_refl _)
          have R := R0.step I.step
          rw [hHp] at R hp
          have hfr : ε e.H.nx = none := R.fresh _ (Nat.le_refl _)
          have hrel := commit R.rel hfr R.gl hp.rel hp.own
          have hst := I.step
          rw [hHp] at hst
          have hext : Ext ε (upd ε e.H.nx L) := upd_ext hfr
          have hst' : Step N ε0 H0 w0 (upd ε e.H.nx L) (HA es Hn (p + 1)) w := by
            rw [hp.hc]
            refine ⟨fun k M hk => hext k M (hst.ext k M hk), fun k hk => ?_, by simp; have := hst.nx; omega, hrel, hst.size, hst.frame, fun b hb => ?_, hst.os, hst.tape, hst.output, by simp [hst.gl]⟩
            · by_cases e1 : k = e.H.nx
              · subst e1; simp; exact hst.nx
              · simp only [upd, e1, if_false] at hk
                have := hst.new k hk
                simp; omega
            · obtain ⟨k, M, hk, hM, rfl⟩ := hb
              by_cases e1 : k = e.H.nx
              · subst e1; simp [upd] at hM; subst hM; exact .inr hp.ge
              · simp only [upd, e1, if_false] at hM
                refine hst.own _ ⟨k, M, ?_, hM, rfl⟩
                unfold IH.has at *
                simpa [Ne.symm e1] using hk
          refine ih (p + 1) _ (by omega) ⟨I.size, I.closed, by omega, fun h hh hx => ?_, fun h hx hd => ?_, hst', I.tsize, I.defers, fun i x d hx hdi hdd hc => ?_, fun t ht => ?_, fun fi fhm' x hf' hx hdi hle => ?_⟩
          · by_cases e1 : h = p
            · subst e1; exact hd
            · exact I.before h (by omega) hx
          · rcases I.after h hx hd with h1 | h1
            · exact .inl (by omega)
            · exact .inr h1
          · by_cases e1 : i = p
            · subst e1; rw [he] at hx; cases hx
              exact ⟨hp.val d hdd, hp.okv⟩
            · have h1 := I.vals i x d hx hdi hdd (by rcases hc with hc | hc; exact .inl (by omega); exact .inr hc)
              have h2 := den_ext hext _ h1.2
              exact ⟨by rw [h2.1]; exact h1.1, h2.2⟩
          · have h1 := I.init t ht
            have h2 := den_ext hext _ h1.2
            exact ⟨by rw [h2.1]; exact h1.1, h2.2⟩
          · rw [hf] at hf'
            cases hf'
            omega
      · exact ⟨p, ε, I, .inr ⟨⟨e, he, hv⟩, hd⟩⟩
end
end Go.Proofs.YtpppmgfiidlfjaaGreatDoor.Sim
