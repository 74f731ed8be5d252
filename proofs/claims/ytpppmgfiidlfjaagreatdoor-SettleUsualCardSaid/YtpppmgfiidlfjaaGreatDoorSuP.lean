/-
  What holds between the operations of a drawn region.
-/
import Derived.Test.YtpppmgfiidlfjaaGreatDoorSuO
set_option linter.unusedSimpArgs false
set_option linter.unusedVariables false
set_option linter.unusedSectionVars false
namespace Go.Proofs.YtpppmgfiidlfjaaGreatDoor.Sim

/-- What is known of the run and of the checks. -/
structure Setup (ty : TypeId → Option TI) (r : Fns) (n : Nat) (ops : Array Oper) (es : List Ent) (Tn : TM) (Hn : IH) (T0 : TM) (H0 : IH) (s : HSt) (A : Nat) : Prop where
  spec : TrSpec ty r n ops.toList Tn Hn [] es ops.toList T0 H0
  hv : HvSpec es s
  ds : DsSpec es A
  lk : ∀ (i : Nat) (e : Ent) (t : Nat), es[i]? = some e → t ∈ looks ops.toList e.o → lookOk es A i e t = true
  rd : ∀ (i : Nat) (e : Ent), es[i]? = some e → opRead e.o.op = true → e.w = true → rdRun ty r s.cm Hn i e es 0 = true
  nx : ∀ (i j : Nat) (x y : Ent), i ≤ j → es[i]? = some x → es[j]? = some y → x.H.nx ≤ y.H.nx
  lt : ∀ (i : Nat) (e : Ent), es[i]? = some e → isFlt e = true → ∃ c, (HA es Hn (i + 1)).get e.H.nx = some (.cells none c) ∧ ltRun Hn i e.H.nx c (es.drop (i + 1)) = true

section
variable {ty : TypeId → Option TI} {r : Fns} {n : Nat} {ops : Array Oper} {es : List Ent} {Tn : TM} {Hn : IH} {T0 : TM} {H0 : IH} {s : HSt} {A : Nat}

theorem setup_of {T' : TM} {H' : IH} (h : idrawn ty r n ops.toList T0 H0 = some (T', H')) : ∃ es s A, Setup ty r n ops es T' H' T0 H0 s A := by
  simp only [idrawn, Option.bind_eq_some_iff] at h
  obtain ⟨⟨es, Tn, Hn⟩, h1, h⟩ := h
  cases hb : drawnOk ty r ops.toList es Hn with
  | false => simp [hb] at h
  | true =>
    simp only [hb, cond_true, Option.some.injEq, Prod.mk.injEq] at h
    obtain ⟨rfl, rfl⟩ := h
    obtain ⟨m, hm, hc⟩ := trRun_chain _ _ _ _ _ h1
    simp only [List.nil_append] at hm
    subst hm
    unfold drawnOk at hb
    split at hb
    · cases hb
    · rename_i s hs
      split at hb
      · cases hb
      · rename_i A hA
        simp only [Bool.and_eq_true] at hb
        have hv : HvSpec es s := by
          have := hvRun_spec es [] ⟨0, 0, []⟩ s ⟨rfl, fun h => by simp [ChainAt], fun i e hi => by simp at hi, fun f e hi => by simp at hi, fun f e hi => by simp at hi⟩ hs
          simpa using this
        have ds : DsSpec es A := by
          have := dsRun_spec es [] 0 A ⟨fun i j e x d hi => by simp at hi, fun i e d hi => by simp at hi⟩ hA
          simpa using this
        refine ⟨es, s, A, chain_spec _ _ _ _ _ hc, hv, ds, fun i e t hi ht => ?_, fun i e hi hr hw => ?_, (nxRun_spec es 0 hb.2.2.1).2, fun i e hi hf => ?_⟩
        · have := lkRun_spec es 0 hb.1 i e t hi ht
          simpa using this
        · have := rdAll_spec es 0 hb.2.1 i e hi hr hw
          simpa using this
        · have := ltAll_spec es 0 hb.2.2.2 i e hi hf
          simpa using this

theorem Setup.masks (S : Setup ty r n ops es Tn Hn T0 H0 s A) : ∀ (i : Nat) (e : Ent), es[i]? = some e → Masks ops (es.take i) i e.tc e.dm ∧ ∀ x, x ∈ e.o.after → Region.binds .any x = true → x.on < i := by
  intro i
  induction i using Nat.strongRecOn with
  | _ i ih =>
    intro e he
    have hb := S.spec.bel i e he
    rw [List.nil_append] at hb
    have ho : ops[i]? = some e.o := by rw [← Array.getElem?_toList]; exact S.spec.op i e he
    have hi := (List.getElem?_eq_some_iff.1 he).1
    have hl : (es.take i).length = i := by simp; omega
    have := below_masks ho (es := es.take i) (fun j x hx => by
      rw [List.getElem?_take] at hx
      split at hx
      · rename_i hj
        have := (ih j hj x hx).1
        rw [List.take_take, Nat.min_eq_left (by omega)]
        exact this
      · cases hx) _ _ _ (fun x hx => by simpa using hx) hb
    exact ⟨this.1, fun x hx hbx => by have := this.2 x (by simpa using hx) hbx; omega⟩

theorem Setup.bel (S : Setup ty r n ops es Tn Hn T0 H0 s A) {i j : Nat} {e : Ent} (he : es[i]? = some e) (h : bitAt e.tc j = true) : Bel ops i j ∧ j < i := by
  have := (S.masks i e he).1.below j h
  refine ⟨this.1, ?_⟩
  have h2 := this.2
  simp at h2; omega

theorem Setup.light (S : Setup ty r n ops es Tn Hn T0 H0 s A) {i : Nat} {e : Ent} (he : es[i]? = some e) (hl : heavy e.o = false) : HA es Hn (i + 1) = e.H := by
  cases hw : e.w with
  | false => exact (S.spec.run0 i e he hw).2
  | true =>
    have := S.spec.run1 i e he hw
    simp only [heavy, Bool.not_eq_false', Bool.or_eq_true] at hl
    rcases hl with hl | hl
    · exact (iop_pure hl this).1
    · exact iop_read hl this

theorem HA_at {i : Nat} {e : Ent} (he : es[i]? = some e) : HA es Hn i = e.H := by simp [HA, he]
theorem TA_at {i : Nat} {e : Ent} (he : es[i]? = some e) : TA es Tn i = e.T := by simp [TA, he]
theorem HA_len : HA es Hn es.length = Hn := by simp [HA]
theorem TA_len : TA es Tn es.length = Tn := by simp [TA]

theorem get_of_lt {i : Nat} (h : i < es.length) : ∃ e, es[i]? = some e := ⟨es[i], List.getElem?_eq_getElem h⟩

/-- What a temporary holds in the order of the text. -/
theorem Setup.text (S : Setup ty r n ops es Tn Hn T0 H0 s A) : ∀ i, i ≤ es.length →
    (∀ (j : Nat) (x : Ent) (d : Nat), j < i → es[j]? = some x → x.o.dst = some d → (TA es Tn i).at d = x.v) ∧
    (∀ t, (∀ (j : Nat) (x : Ent), j < i → es[j]? = some x → x.o.dst ≠ some t) → (TA es Tn i).at t = T0.at t)
  | 0, _ => ⟨fun j x d hj => by omega, fun t _ => by rw [S.spec.t0]⟩
  | i + 1, hi => by
    obtain ⟨h1, h2⟩ := S.text i (by omega)
    obtain ⟨e, he⟩ := get_of_lt (es := es) (i := i) (by omega)
    have hp := S.spec.put i e he
    rw [← TA_at (Tn := Tn) he] at hp
    have hset : ∀ t, (TA es Tn (i + 1)).at t = if e.o.dst = some t then e.v else (TA es Tn i).at t := fun t => by
      cases hd : e.o.dst with
      | none => rw [hd] at hp; simp only [putT, Option.some.injEq] at hp; rw [← hp]; simp
      | some d =>
        rw [hd] at hp
        simp only [putT] at hp
        cases hb : Nat.blt d n with
        | false => simp [hb] at hp
        | true =>
          simp only [hb, cond_true, Option.some.injEq] at hp
          rw [← hp, at_set]
          simp
    refine ⟨fun j x d hj hx hd => ?_, fun t ht => ?_⟩
    · rw [hset]
      by_cases e1 : e.o.dst = some d
      · have := S.ds.one i j e x d he hx e1 hd
        subst this
        rw [he] at hx; cases hx
        rw [if_pos e1]
      · rw [if_neg e1]
        have hne : j ≠ i := fun h => by subst h; rw [he] at hx; cases hx; exact e1 hd
        exact h1 j x d (by omega) hx hd
    · rw [hset, if_neg (ht i e (by omega) he)]
      exact h2 t (fun j x hj hx => ht j x (by omega) hx)

def Dn (listed : Array Bool) (j : Nat) : Prop := listed.getD j false = true

theorem dn_set {listed : Array Bool} {i j : Nat} (hi : i < listed.size) : Dn (listed.setIfInBounds i true) j ↔ j = i ∨ Dn listed j := by
  unfold Dn
  by_cases h : i = j
  · subst h
    simp [hi]
  · rw [getD_set_ne false h]
    constructor
    · exact .inr
    · rintro (h1 | h1)
      · exact absurd h1.symm h
      · exact h1

/-- An early one that is not yet told to the ideal machine. -/
structure Pend (G : Tr (List IV)) (N : Nat) (w0 : World) (es : List Ent) (Hn : IH) (ε : Env) (fi : Nat) (e : Ent) (Hp : IH) (a : Act) (w : World) (L : Loc) (c : List IV) : Prop where
  hc : HA es Hn (fi + 1) = e.H.new (.cells none c)
  rel : HRel N (upd ε e.H.nx L) ((⟨.e, e.H.nx, G⟩ : IH).new (.cells none c)) w
  okv : ok (upd ε e.H.nx L) e.v
  val : ∀ d, e.o.dst = some d → a.tmps.getD d undef = den (upd ε e.H.nx L) e.v
  own : ¬ Own ε Hp L.blk
  ge : w0.heap.size ≤ L.blk

theorem new_has {nx : Nat} {G : Tr (List IV)} {c : List IV} {k : Nat} : ((⟨.e, nx, G⟩ : IH).new (.cells none c)).has k → k = nx := by
  rintro (⟨m, c', h⟩ | ⟨o, h, ho⟩)
  · rw [IH.get_new] at h
    split at h
    · rename_i e; exact e.symm
    · simp [IH.get] at h
  · rw [IH.get_new] at h
    split at h
    · cases h; cases ho
    · simp [IH.get] at h

theorem new_self {H : IH} {c : List IV} : (H.new (.cells none c)).get H.nx = some (.cells none c) := by simp

variable {P : Program} {G : Tr (List IV)} {N : Nat} {D : List Deferred} {ε0 : Env} {w0 : World}

theorem Pend.lt {ε : Env} {fi : Nat} {e : Ent} {Hp : IH} {a : Act} {w : World} {L : Loc} {c : List IV} (p : Pend G N w0 es Hn ε fi e Hp a w L c) : N ≤ L.blk ∧ L.blk < w.heap.size := by
  have h1 := p.rel.cells e.H.nx none c L (by simp) (by simp [upd])
  obtain ⟨h2, arr, el, h3, _⟩ := h1
  exact ⟨h2, (Array.getElem?_eq_some_iff.1 h3).1⟩

/-- It stays when others do something. -/
theorem Pend.move {ε ε' : Env} {fi : Nat} {e : Ent} {Hp Hp' : IH} {a a' : Act} {w w' : World} {L : Loc} {c : List IV} (p : Pend G N w0 es Hn ε fi e Hp a w L c)
    (ext : Ext ε ε') (hs : w.heap.size ≤ w'.heap.size) (hfr : ∀ b, b < w.heap.size → ¬ Own ε Hp b → w'.heap[b]? = w.heap[b]?) (hown : ¬ Own ε' Hp' L.blk)
    (rel : HRel N ε Hp w) (ha : ∀ d, e.o.dst = some d → a'.tmps.getD d undef = a.tmps.getD d undef) : Pend G N w0 es Hn ε' fi e Hp' a' w' L c := by
  have hlt := p.lt
  have hext : Ext (upd ε e.H.nx L) (upd ε' e.H.nx L) := fun k M hk => by
    unfold upd at hk ⊢
    by_cases e1 : k = e.H.nx
    · rw [if_pos e1] at hk ⊢; exact hk
    · rw [if_neg e1] at hk ⊢; exact ext k M hk
  have hv := den_ext hext _ p.okv
  refine ⟨p.hc, ?_, hv.2, fun d hd => by rw [ha d hd, p.val d hd, hv.1], hown, p.ge⟩
  refine p.rel.move hext (fun k hk => ?_) hs (fun b hb => ?_)
  · have := new_has hk
    subst this
    simp [upd]
  · rcases hb with hb | ⟨k, M, hk, hM, rfl⟩
    · refine hfr b (by have := rel.base; omega) (fun ho => ?_)
      have := rel.own_ge ho; omega
    · have := new_has hk
      subst this
      simp [upd] at hM
      subst hM
      exact hfr _ hlt.2 p.own

/-- It stays when the ideal heap does a step. -/
theorem Pend.step {ε ε' : Env} {fi : Nat} {e : Ent} {Hp Hp' : IH} {a a' : Act} {w w' : World} {L : Loc} {c : List IV} (p : Pend G N w0 es Hn ε fi e Hp a w L c)
    (st : Step N ε Hp w ε' Hp' w') (rel : HRel N ε Hp w) (ha : ∀ d, e.o.dst = some d → a'.tmps.getD d undef = a.tmps.getD d undef) : Pend G N w0 es Hn ε' fi e Hp' a' w' L c :=
  p.move st.ext st.size st.frame (fun ho => by
    have hlt := p.lt
    rcases st.own _ ho with h | h
    · exact p.own h
    · omega) rel ha

/-- What holds between the operations, once some are done. -/
structure Inv (P : Program) (G : Tr (List IV)) (N : Nat) (D : List Deferred) (ε0 : Env) (w0 : World) (n : Nat) (ops : Array Oper) (es : List Ent) (Hn : IH) (T0 : TM) (H0 : IH) (s : HSt)
    (listed : Array Bool) (p : Nat) (ε : Env) (a : Act) (w : World) : Prop where
  size : listed.size = ops.size
  closed : Closed ops (Dn listed)
  p_le : p ≤ es.length
  before : ∀ h, h < p → ChainAt es h → Dn listed h
  after : ∀ h, ChainAt es h → Dn listed h → h < p
  step : Step N ε0 H0 w0 ε (HA es Hn p) w
  tsize : a.tmps.size = n
  defers : a.defers = D
  vals : ∀ (i : Nat) (e : Ent) (d : Nat), es[i]? = some e → Dn listed i → e.o.dst = some d → (i < p ∨ isFlt e = false) → a.tmps.getD d undef = den ε e.v ∧ ok ε e.v
  init : ∀ t, (∀ (i : Nat) (e : Ent), es[i]? = some e → Dn listed i → e.o.dst ≠ some t) → a.tmps.getD t undef = den ε (T0.at t) ∧ ok ε (T0.at t)
  unborn : ∀ (f : Nat) (e : Ent), es[f]? = some e → isFlt e = true → ¬ Dn listed f → f < p → ε e.H.nx = none ∧ H0.nx ≤ e.H.nx ∧ e.H.nx < (HA es Hn p).nx
  pend : ∃ Lf : Nat → Loc, (∀ (f : Nat) (e : Ent), es[f]? = some e → isFlt e = true → Dn listed f → p ≤ f → ∃ c, Pend G N w0 es Hn ε f e (HA es Hn p) a w (Lf f) c) ∧
    ∀ (f f' : Nat) (e e' : Ent), es[f]? = some e → es[f']? = some e' → isFlt e = true → isFlt e' = true → Dn listed f → Dn listed f' → p ≤ f → p ≤ f' → f ≠ f' → (Lf f).blk ≠ (Lf f').blk

/-- The early one is told to the ideal machine. -/
theorem commit {ε : Env} {H : IH} {w : World} {L : Loc} {c : List IV} (rel : HRel N ε H w) (fr : ε H.nx = none) (hG : H.gl = G)
    (pr : HRel N (upd ε H.nx L) ((⟨.e, H.nx, G⟩ : IH).new (.cells none c)) w) (own : ¬ Own ε H L.blk) : HRel N (upd ε H.nx L) (H.new (.cells none c)) w := by
  have hne : ∀ k, H.has k → k ≠ H.nx := fun k hk e => by have := rel.dom k hk; omega
  have hm := rel.move (upd_ext (L := L) fr) (fun k hk => by simp [upd, hne k hk]) (Nat.le_refl _) (fun _ _ => rfl)
  have hold : ∀ k, k ≠ H.nx → (H.new (.cells none c)).get k = H.get k := fun k hk => by simp [Ne.symm hk]
  have hhas : ∀ k, (H.new (.cells none c)).has k → k = H.nx ∨ H.has k := fun k hk => by
    by_cases e : k = H.nx
    · exact .inl e
    · right; unfold IH.has at *; rw [hold k e] at hk; exact hk
  have hnew : ((⟨.e, H.nx, G⟩ : IH).new (.cells none c)).get H.nx = some (.cells none c) := by simp
  have blk : ∀ k M, H.has k → upd ε H.nx L k = some M → M.blk ≠ L.blk := fun k M hk hM e => by
    simp only [upd, hne k hk, if_false] at hM
    exact own ⟨k, M, hk, hM, e⟩
  refine ⟨rel.base, fun k hk => ?_, fun k m c1 M hk hM => ?_, fun k o M hk ho hM => ?_, fun k k' M M' hk hk' hn hM hM' hb => ?_, ?_⟩
  · rcases hhas k hk with e | e
    · simp [e]
    · have := rel.dom k e; simp; omega
  · by_cases e : k = H.nx
    · subst e
      simp at hk
      obtain ⟨rfl, rfl⟩ := hk
      exact pr.cells H.nx none c M hnew hM
    · rw [hold k e] at hk; exact hm.cells k m c1 M hk hM
  · by_cases e : k = H.nx
    · subst e; simp at hk; subst hk; cases ho
    · rw [hold k e] at hk; exact hm.others k o M hk ho hM
  · rcases hhas k hk with e | e
    · rcases hhas k' hk' with e' | e'
      · exact absurd (e.trans e'.symm) hn
      · subst e
        simp [upd] at hM; subst hM
        exact absurd hb.symm (blk k' M' e' hM')
    · rcases hhas k' hk' with e' | e'
      · subst e'
        simp [upd] at hM'; subst hM'
        exact absurd hb (blk k M e hM)
      · obtain ⟨c', hc'⟩ := hm.sep k k' M M' e e' hn hM hM' hb
        exact ⟨c', by rw [hold k (hne k e)]; exact hc'⟩
  · exact hm.gl

/-- An ideal row that lies nowhere yet. -/
theorem unbornRel {ε : Env} {H : IH} {w : World} (rel : HRel N ε H w) (fr : ε H.nx = none) (c : List IV) : HRel N ε (H.new (.cells none c)) w := by
  have hold : ∀ k, k ≠ H.nx → (H.new (.cells none c)).get k = H.get k := fun k hk => by simp [Ne.symm hk]
  have hhas : ∀ k L, (H.new (.cells none c)).has k → ε k = some L → H.has k := fun k L hk hL => by
    have e : k ≠ H.nx := fun e => by subst e; rw [fr] at hL; cases hL
    unfold IH.has at *; rw [hold k e] at hk; exact hk
  refine ⟨rel.base, fun k hk => ?_, fun k m c1 M hk hM => ?_, fun k o M hk ho hM => ?_, fun k k' M M' hk hk' hn hM hM' hb => ?_, rel.gl⟩
  · by_cases e : k = H.nx
    · simp [e]
    · have : H.has k := by unfold IH.has at *; rw [hold k e] at hk; exact hk
      have := rel.dom k this; simp; omega
  · have e : k ≠ H.nx := fun e => by subst e; rw [fr] at hM; cases hM
    rw [hold k e] at hk; exact rel.cells k m c1 M hk hM
  · have e : k ≠ H.nx := fun e => by subst e; rw [fr] at hM; cases hM
    rw [hold k e] at hk; exact rel.others k o M hk ho hM
  · have e : k ≠ H.nx := fun e => by subst e; rw [fr] at hM; cases hM
    obtain ⟨c', hc'⟩ := rel.sep k k' M M' (hhas k M hk hM) (hhas k' M' hk' hM') hn hM hM' hb
    exact ⟨c', by rw [hold k e]; exact hc'⟩

theorem unbornOwn {ε : Env} {H : IH} (fr : ε H.nx = none) (c : List IV) {b : Nat} (h : Own ε (H.new (.cells none c)) b) : Own ε H b := by
  obtain ⟨k, M, hk, hM, rfl⟩ := h
  have e : k ≠ H.nx := fun e => by subst e; rw [fr] at hM; cases hM
  refine ⟨k, M, ?_, hM, rfl⟩
  unfold IH.has at *
  simpa [Ne.symm e] using hk

theorem isFlt_spec {e : Ent} (h : isFlt e = true) : opFloat e.o.op = true ∧ e.w = true ∧ e.o.guard = none := by
  simp only [isFlt, Bool.and_eq_true, Option.isNone_iff_eq_none] at h
  exact h

theorem Setup.flt (S : Setup ty r n ops es Tn Hn T0 H0 s A) {f : Nat} {e : Ent} (he : es[f]? = some e) (hf : isFlt e = true) :
    ∃ c, HA es Hn (f + 1) = e.H.new (.cells none c) ∧ (e.v = .p e.H.nx 0 ∨ ∃ len sz, e.v = .sl e.H.nx 0 len len true sz) ∧ ∀ H2, H2.nx = e.H.nx → iop ty r e.T H2 e.o.op = some (e.v, H2.new (.cells none c)) := by
  obtain ⟨h1, h2, _⟩ := isFlt_spec hf
  exact iop_float h1 (S.spec.run1 f e he h2)

/-- The ideal machine goes on to the next of the chain that is not done. -/
theorem Inv.norm (S : Setup ty r n ops es Tn Hn T0 H0 s A) (R0 : Rel G N ε0 H0 w0) {listed : Array Bool} {a : Act} {w : World} : ∀ (k p : Nat) (ε : Env), es.length - p = k →
    Inv P G N D ε0 w0 n ops es Hn T0 H0 s listed p ε a w → ∃ p' ε', Inv P G N D ε0 w0 n ops es Hn T0 H0 s listed p' ε' a w ∧ (p' = es.length ∨ (ChainAt es p' ∧ ¬ Dn listed p')) := by
  intro k
  induction k with
  | zero => intro p ε hk I; exact ⟨p, ε, I, .inl (by have := I.p_le; omega)⟩
  | succ k ih =>
    intro p ε hk I
    obtain ⟨e, he⟩ := get_of_lt (es := es) (i := p) (by omega)
    have hHp := HA_at (Hn := Hn) he
    have nochain : chainE e = false → ∀ h, h < p + 1 → ChainAt es h → Dn listed h := fun hc h hh hx => by
      by_cases e1 : h = p
      · subst e1; obtain ⟨y, hy, hvy⟩ := hx; rw [he] at hy; cases hy; rw [hc] at hvy; cases hvy
      · exact I.before h (by omega) hx
    have aft : ∀ h, ChainAt es h → Dn listed h → h < p + 1 := fun h hx hd => by have := I.after h hx hd; omega
    cases hf : isFlt e with
    | true =>
      have hc := flt_chain hf
      obtain ⟨c, hcH, hsh, hany⟩ := S.flt he hf
      have R := R0.step I.step
      rw [hHp] at R
      have hfr : ε e.H.nx = none := R.fresh _ (Nat.le_refl _)
      have hst := I.step
      rw [hHp] at hst
      obtain ⟨Lf, hp1, hp2⟩ := I.pend
      by_cases hd : Dn listed p
      · obtain ⟨c', hp⟩ := hp1 p e he hf hd (Nat.le_refl _)
        have hcc : c' = c := by
          have h1 := hp.hc
          rw [hcH] at h1
          have h2 := congrArg (fun H => H.get e.H.nx) h1
          simp at h2
          exact h2.symm
        subst hcc
        rw [hHp] at hp
        have hrel := commit R.rel hfr R.gl hp.rel hp.own
        have hext : Ext ε (upd ε e.H.nx (Lf p)) := upd_ext hfr
        have hst' : Step N ε0 H0 w0 (upd ε e.H.nx (Lf p)) (HA es Hn (p + 1)) w := by
          rw [hp.hc]
          refine ⟨fun k M hk => hext k M (hst.ext k M hk), fun k hk => ?_, by simp; have := hst.nx; omega, hrel, hst.size, hst.frame, fun b hb => ?_, hst.os, hst.tape, hst.output, by simp [hst.gl]⟩
          · by_cases e1 : k = e.H.nx
            · subst e1; simp; exact hst.nx
            · simp only [upd, e1, if_false] at hk
              have := hst.new k hk
              simp; omega
          · obtain ⟨k, M, hk, hM, rfl⟩ := hb
            by_cases e1 : k = e.H.nx
            · subst e1; simp [upd] at hM; subst hM; exact .inr hp.ge
            · simp only [upd, e1, if_false] at hM
              refine hst.own _ ⟨k, M, ?_, hM, rfl⟩
              unfold IH.has at *
              simpa [Ne.symm e1] using hk
        refine ih (p + 1) _ (by omega) ⟨I.size, I.closed, by omega, nochain hc, aft, hst', I.tsize, I.defers, fun i x d hx hdi hdd hc => ?_, fun t ht => ?_, fun f x hx hfx hdf hlt => ?_, ⟨Lf, fun f x hx hfx hdf hle => ?_, fun f f' x x' hx hx' hfx hfx' hdf hdf' hle hle' hne => hp2 f f' x x' hx hx' hfx hfx' hdf hdf' (by omega) (by omega) hne⟩⟩
        · by_cases e1 : i = p
          · subst e1; rw [he] at hx; cases hx
            exact ⟨hp.val d hdd, hp.okv⟩
          · have h1 := I.vals i x d hx hdi hdd (by rcases hc with hc | hc; exact .inl (by omega); exact .inr hc)
            have h2 := den_ext hext _ h1.2
            exact ⟨by rw [h2.1]; exact h1.1, h2.2⟩
        · have h1 := I.init t ht
          have h2 := den_ext hext _ h1.2
          exact ⟨by rw [h2.1]; exact h1.1, h2.2⟩
        · have hne : f ≠ p := fun e => by subst e; exact hdf hd
          obtain ⟨h1, h2, h3⟩ := I.unborn f x hx hfx hdf (by omega)
          rw [hHp] at h3
          refine ⟨?_, h2, ?_⟩
          · unfold upd; rw [if_neg (by omega)]; exact h1
          · rw [hcH]; simp; omega
        · obtain ⟨c2, hq⟩ := hp1 f x hx hfx hdf (by omega)
          rw [hHp] at hq
          refine ⟨c2, hq.move hext (Nat.le_refl _) (fun _ _ _ => rfl) (fun ho => ?_) R.rel (fun _ _ => rfl)⟩
          rw [hcH] at ho
          obtain ⟨k, M, hk, hM, hb⟩ := ho
          by_cases e1 : k = e.H.nx
          · subst e1
            simp [upd] at hM; subst hM
            exact hp2 p f e x he hx hf hfx hd hdf (Nat.le_refl _) (by omega) (by omega) hb
          · simp only [upd, e1, if_false] at hM
            refine hq.own ⟨k, M, ?_, hM, hb⟩
            unfold IH.has at *
            simpa [Ne.symm e1] using hk
      · have hst' : Step N ε0 H0 w0 ε (HA es Hn (p + 1)) w := by
          rw [hcH]
          exact ⟨hst.ext, fun k hk => by have := hst.new k hk; simp; omega, by simp; have := hst.nx; omega, unbornRel R.rel hfr c, hst.size, hst.frame, fun b hb => hst.own b (unbornOwn hfr c hb), hst.os, hst.tape, hst.output, by simp [hst.gl]⟩
        refine ih (p + 1) ε (by omega) ⟨I.size, I.closed, by omega, nochain hc, aft, hst', I.tsize, I.defers, fun i x d hx hdi hdd hc => ?_, I.init, fun f x hx hfx hdf hlt => ?_, ⟨Lf, fun f x hx hfx hdf hle => ?_, fun f f' x x' hx hx' hfx hfx' hdf hdf' hle hle' hne => hp2 f f' x x' hx hx' hfx hfx' hdf hdf' (by omega) (by omega) hne⟩⟩
        · refine I.vals i x d hx hdi hdd ?_
          rcases hc with hc | hc
          · by_cases e1 : i = p
            · subst e1; exact absurd hdi hd
            · exact .inl (by omega)
          · exact .inr hc
        · by_cases e1 : f = p
          · subst e1; rw [he] at hx; cases hx
            exact ⟨hfr, hst.nx, by rw [hcH]; simp⟩
          · obtain ⟨h1, h2, h3⟩ := I.unborn f x hx hfx hdf (by omega)
            rw [hHp] at h3
            exact ⟨h1, h2, by rw [hcH]; simp; omega⟩
        · obtain ⟨c2, hq⟩ := hp1 f x hx hfx hdf (by omega)
          rw [hHp] at hq
          refine ⟨c2, hq.move (fun _ _ h => h) (Nat.le_refl _) (fun _ _ _ => rfl) (fun ho => ?_) R.rel (fun _ _ => rfl)⟩
          rw [hcH] at ho
          exact hq.own (unbornOwn hfr c ho)
    | false =>
      cases hc : chainE e with
      | true =>
        by_cases hd : Dn listed p
        · exact absurd (I.after p ⟨e, he, hc⟩ hd) (Nat.lt_irrefl _)
        · exact ⟨p, ε, I, .inr ⟨⟨e, he, hc⟩, hd⟩⟩
      | false =>
        have hH : HA es Hn (p + 1) = HA es Hn p := by rw [S.light he (light_of hf hc), hHp]
        obtain ⟨Lf, hp1, hp2⟩ := I.pend
        refine ih (p + 1) ε (by omega) ⟨I.size, I.closed, by omega, nochain hc, aft, by rw [hH]; exact I.step, I.tsize, I.defers, fun i x d hx hd hdd hcc => ?_, I.init, fun f x hx hfx hdf hlt => ?_, ⟨Lf, fun f x hx hfx hdf hle => ?_, fun f f' x x' hx hx' hfx hfx' hdf hdf' hle hle' hne => hp2 f f' x x' hx hx' hfx hfx' hdf hdf' (by omega) (by omega) hne⟩⟩
        · refine I.vals i x d hx hd hdd ?_
          rcases hcc with hcc | hcc
          · by_cases e1 : i = p
            · subst e1; rw [he] at hx; cases hx; exact .inr hf
            · exact .inl (by omega)
          · exact .inr hcc
        · have hne : f ≠ p := fun e => by subst e; rw [he] at hx; cases hx; rw [hf] at hfx; cases hfx
          rw [hH]
          exact I.unborn f x hx hfx hdf (by omega)
        · obtain ⟨c, hp⟩ := hp1 f x hx hfx hdf (by omega)
          exact ⟨c, by rw [hH]; exact hp⟩
end
end Go.Proofs.YtpppmgfiidlfjaaGreatDoor.Sim
