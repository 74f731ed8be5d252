/-
  What an ideal value stands for, what holds between the ideal heap and the real one, and the steps that keep it.
-/
import Derived.Test.YtpppmgfiidlfjaaGreatDoorSuB
set_option linter.unusedSimpArgs false
set_option linter.unusedVariables false
set_option linter.unusedSectionVars false
namespace Go.Proofs.YtpppmgfiidlfjaaGreatDoor.Sim

/-- Where an ideal block lies: the real block, the place of its first cell, how many cells the real block has. -/
structure Loc where
  blk : Nat
  sh : Nat
  n : Nat
abbrev Env := Nat → Option Loc

mutual
def den (ε : Env) : IV → Value
  | .b x => .bool x
  | .i k n => .int k n
  | .s x => .string x
  | .p0 => .pointer none
  | .p k o => match ε k with | some L => .pointer (some ⟨L.blk, L.sh + o, none⟩) | none => undef
  | .g b o => .pointer (some ⟨b, o, none⟩)
  | .s0 => .slice none 0 0
  | .sl k o len cap ex sz => match ε k with
    | some L => .slice (some ⟨L.blk, L.sh + o, none⟩) len (if ex then cap else (L.n - (L.sh + o)) / sz)
    | none => undef
  | .m0 => .map none
  | .m k => match ε k with | some L => .map (some L.blk) | none => undef
  | .f0 => .nilFunc
  | .fn f a c => .func f (dens ε a).toArray (dens ε c).toArray
  | .i0 => .nilIface
  | .ifc t v => .iface t (den ε v)
  | .yl k => match ε k with | some L => .func (.yield L.blk) #[] #[] | none => undef
  | .agg l => .agg (dens ε l).toArray
  | .tup l => .tuple (dens ε l).toArray
def dens (ε : Env) : List IV → List Value
  | [] => []
  | v :: l => den ε v :: dens ε l
end

mutual
def ok (ε : Env) : IV → Prop
  | .p k _ => ∃ L, ε k = some L
  | .sl k o len cap _ sz => ∃ L, ε k = some L ∧ 0 < sz ∧ len ≤ cap ∧ L.sh + o + cap * sz ≤ L.n
  | .m k => ∃ L, ε k = some L
  | .fn _ a c => oks ε a ∧ oks ε c
  | .ifc _ v => ok ε v
  | .yl k => ∃ L, ε k = some L
  | .agg l => oks ε l
  | .tup l => oks ε l
  | _ => True
def oks (ε : Env) : List IV → Prop
  | [] => True
  | v :: l => ok ε v ∧ oks ε l
end

theorem dens_map (ε : Env) : ∀ l, dens ε l = l.map (den ε)
  | [] => rfl
  | v :: l => by simp [dens, dens_map ε l]

theorem oks_iff (ε : Env) : ∀ l, oks ε l ↔ ∀ v, v ∈ l → ok ε v
  | [] => by simp [oks]
  | v :: l => by simp [oks, oks_iff ε l]

@[simp] theorem dens_length (ε : Env) (l : List IV) : (dens ε l).length = l.length := by simp [dens_map]

def Ext (ε ε' : Env) : Prop := ∀ k L, ε k = some L → ε' k = some L

mutual
theorem den_ext {ε ε' : Env} (h : Ext ε ε') : ∀ v, ok ε v → den ε' v = den ε v ∧ ok ε' v
  | .b _, _ => ⟨rfl, trivial⟩
  | .i _ _, _ => ⟨rfl, trivial⟩
  | .s _, _ => ⟨rfl, trivial⟩
  | .p0, _ => ⟨rfl, trivial⟩
  | .g _ _, _ => ⟨rfl, trivial⟩
  | .s0, _ => ⟨rfl, trivial⟩
  | .m0, _ => ⟨rfl, trivial⟩
  | .f0, _ => ⟨rfl, trivial⟩
  | .i0, _ => ⟨rfl, trivial⟩
  | .p k o, hv => by
    obtain ⟨L, hL⟩ := hv
    exact ⟨by simp only [den, hL, h k L hL], ⟨L, h k L hL⟩⟩
  | .sl k o len cap ex sz, hv => by
    obtain ⟨L, hL, r⟩ := hv
    exact ⟨by simp only [den, hL, h k L hL], ⟨L, h k L hL, r⟩⟩
  | .m k, hv => by
    obtain ⟨L, hL⟩ := hv
    exact ⟨by simp only [den, hL, h k L hL], ⟨L, h k L hL⟩⟩
  | .yl k, hv => by
    obtain ⟨L, hL⟩ := hv
    exact ⟨by simp only [den, hL, h k L hL], ⟨L, h k L hL⟩⟩
  | .fn f a c, hv => by
    simp only [ok] at hv
    have h1 := dens_ext h a hv.1
    have h2 := dens_ext h c hv.2
    exact ⟨by simp only [den, h1.1, h2.1], ⟨h1.2, h2.2⟩⟩
  | .ifc t v, hv => by
    simp only [ok] at hv
    have h1 := den_ext h v hv
    exact ⟨by simp only [den, h1.1], h1.2⟩
  | .agg l, hv => by
    simp only [ok] at hv
    have h1 := dens_ext h l hv
    exact ⟨by simp only [den, h1.1], h1.2⟩
  | .tup l, hv => by
    simp only [ok] at hv
    have h1 := dens_ext h l hv
    exact ⟨by simp only [den, h1.1], h1.2⟩
theorem dens_ext {ε ε' : Env} (h : Ext ε ε') : ∀ l, oks ε l → dens ε' l = dens ε l ∧ oks ε' l
  | [], _ => ⟨rfl, trivial⟩
  | v :: l, hv => by
    simp only [oks] at hv
    have h1 := den_ext h v hv.1
    have h2 := dens_ext h l hv.2
    exact ⟨by simp only [dens, h1.1, h2.1], ⟨h1.2, h2.2⟩⟩
end

def oneC : Value → Bool
  | .agg _ | .tuple _ => false
  | _ => true

theorem den_single {ε : Env} {v : IV} (h : ok ε v) (hs : v.single = true) : oneC (den ε v) = true := by
  cases v with
  | p k o => obtain ⟨L, hL⟩ := h; simp [den, hL, oneC]
  | sl k o len cap ex sz => obtain ⟨L, hL, _⟩ := h; simp [den, hL, oneC]
  | m k => obtain ⟨L, hL⟩ := h; simp [den, hL, oneC]
  | yl k => obtain ⟨L, hL⟩ := h; simp [den, hL, oneC]
  | agg l => simp [IV.single] at hs
  | tup l => simp [IV.single] at hs
  | _ => rfl

theorem den_cells {ε : Env} (v : IV) (h : ok ε v) : (den ε v).cells = (dens ε v.cells).toArray := by
  cases v with
  | agg l => rfl
  | p k o => obtain ⟨L, hL⟩ := h; simp [den, dens, IV.cells, hL, Value.cells]
  | sl k o len cap ex sz => obtain ⟨L, hL, _⟩ := h; simp [den, dens, IV.cells, hL, Value.cells]
  | m k => obtain ⟨L, hL⟩ := h; simp [den, dens, IV.cells, hL, Value.cells]
  | yl k => obtain ⟨L, hL⟩ := h; simp [den, dens, IV.cells, hL, Value.cells]
  | _ => rfl

theorem ok_cells {ε : Env} {v : IV} (h : ok ε v) : oks ε v.cells := by
  cases v with
  | agg l => exact h
  | _ => exact ⟨h, trivial⟩

/- The heap. -/
@[simp] theorem IH.get_put (H : IH) (k k' : Nat) (o : IObj) : (H.put k o).get k' = if k = k' then some o else H.get k' := by
  simp [IH.get, IH.put, get_set]
@[simp] theorem IH.get_new (H : IH) (k' : Nat) (o : IObj) : (H.new o).get k' = if H.nx = k' then some o else H.get k' := by
  simp [IH.get, IH.new, get_set]
@[simp] theorem IH.put_nx (H : IH) (k : Nat) (o : IObj) : (H.put k o).nx = H.nx := rfl
@[simp] theorem IH.put_gl (H : IH) (k : Nat) (o : IObj) : (H.put k o).gl = H.gl := rfl
@[simp] theorem IH.new_nx (H : IH) (o : IObj) : (H.new o).nx = H.nx + 1 := rfl
@[simp] theorem IH.new_gl (H : IH) (o : IObj) : (H.new o).gl = H.gl := rfl
@[simp] theorem IH.kill_nx (H : IH) (m : Option Nat) : (H.kill m).nx = H.nx := by cases m <;> rfl
@[simp] theorem IH.kill_gl (H : IH) (m : Option Nat) : (H.kill m).gl = H.gl := by cases m <;> rfl
theorem IH.get_kill (H : IH) (m : Option Nat) (k' : Nat) : (H.kill m).get k' = if m = some k' then some .dead else H.get k' := by
  cases m with
  | none => simp [IH.kill]
  | some k => simp [IH.kill]

/-- An object that is no row of cells. -/
def IObj.other : IObj → Bool
  | .map _ | .loop _ => true
  | _ => false

def IH.has (H : IH) (k : Nat) : Prop := (∃ m c, H.get k = some (.cells m c)) ∨ ∃ o, H.get k = some o ∧ o.other = true

/-- What a loop's record holds. -/
structure LoopRel (ε : Env) (r : ILoop) (R : Loop) : Prop where
  state : R.state = r.state
  pending : R.pending = r.pending
  size : R.tmps.size = r.n
  at_ : ∀ t, R.tmps.getD t undef = den ε (TM.at r.T t) ∧ ok ε (TM.at r.T t)
  params : R.params.toList = r.params
  assign : R.assign = r.assign
  body : R.body = r.body

/-- What stands for an object that is no row of cells. -/
def OtherRel (ε : Env) : IObj → Obj → Prop
  | .map es, R => ∃ arr cl, R = .map arr cl ∧ arr.toList.map (fun e => (e.key, e.val)) = es.map (fun x => (den ε x.1, den ε x.2)) ∧ ∀ x, x ∈ es → ok ε x.1 ∧ ok ε x.2
  | .loop r, R => ∃ R', R = .loop R' ∧ LoopRel ε r R'
  | _, _ => False

theorem OtherRel.ext {ε ε' : Env} (he : Ext ε ε') {o : IObj} {R : Obj} (h : OtherRel ε o R) : OtherRel ε' o R := by
  cases o with
  | cells _ _ => exact h
  | dead => exact h
  | map es =>
    obtain ⟨arr, cl, rfl, h1, h2⟩ := h
    refine ⟨arr, cl, rfl, ?_, fun x hx => ⟨(den_ext he _ (h2 x hx).1).2, (den_ext he _ (h2 x hx).2).2⟩⟩
    rw [h1]
    refine List.map_congr_left fun x hx => ?_
    rw [(den_ext he _ (h2 x hx).1).1, (den_ext he _ (h2 x hx).2).1]
  | loop r =>
    obtain ⟨R', rfl, h⟩ := h
    refine ⟨R', rfl, ⟨h.state, h.pending, h.size, fun t => ?_, h.params, h.assign, h.body⟩⟩
    · have h1 := h.at_ t
      have h2 := den_ext he _ h1.2
      exact ⟨by rw [h2.1]; exact h1.1, h2.2⟩

/-- A block of the real heap that an ideal one lies in. -/
def Own (ε : Env) (H : IH) (b : Nat) : Prop := ∃ k L, H.has k ∧ ε k = some L ∧ L.blk = b

structure HRel (N : Nat) (ε : Env) (H : IH) (w : World) : Prop where
  base : N ≤ w.heap.size
  dom : ∀ k, H.has k → k < H.nx
  cells : ∀ k mate c L, H.get k = some (.cells mate c) → ε k = some L → N ≤ L.blk ∧ ∃ arr el, w.heap[L.blk]? = some (.cells arr el (0, 0)) ∧ arr.size = L.n ∧
    ∀ (j : Nat) (v : IV), c[j]? = some v → arr[L.sh + j]? = some (den ε v) ∧ ok ε v ∧ v.single = true
  others : ∀ k o L, H.get k = some o → o.other = true → ε k = some L → N ≤ L.blk ∧ ∃ R, w.heap[L.blk]? = some R ∧ OtherRel ε o R
  sep : ∀ k k' L L', H.has k → H.has k' → k ≠ k' → ε k = some L → ε k' = some L' → L.blk = L'.blk → ∃ c, H.get k = some (.cells (some k') c)
  gl : ∀ (g : Nat) (c : List IV), H.gl.get (bits g) = some c → g < N ∧ ∃ arr el fr, w.heap[g]? = some (.cells arr el fr) ∧
    ∀ (j : Nat) (v : IV), c[j]? = some v → arr[j]? = some (den ε v) ∧ ok ε v ∧ v.single = true

theorem HRel.maps {N : Nat} {ε : Env} {H : IH} {w : World} (h : HRel N ε H w) (k : Nat) (es : List (IV × IV)) (L : Loc) (hk : H.get k = some (.map es)) (hL : ε k = some L) : N ≤ L.blk ∧ ∃ arr cl, w.heap[L.blk]? = some (.map arr cl) ∧
    arr.toList.map (fun e => (e.key, e.val)) = es.map (fun x => (den ε x.1, den ε x.2)) ∧ ∀ x, x ∈ es → ok ε x.1 ∧ ok ε x.2 := by
  obtain ⟨h1, R, h2, arr, cl, rfl, h3⟩ := h.others k _ L hk rfl hL
  exact ⟨h1, arr, cl, h2, h3⟩

theorem HRel.own_ge {N : Nat} {ε : Env} {H : IH} {w : World} (h : HRel N ε H w) {b : Nat} (hb : Own ε H b) : N ≤ b := by
  obtain ⟨k, L, hk, hL, rfl⟩ := hb
  rcases hk with ⟨m, c, hk⟩ | ⟨o, hk, ho⟩
  · exact (h.cells k m c L hk hL).1
  · exact (h.others k o L hk ho hL).1

theorem HRel.own_lt {N : Nat} {ε : Env} {H : IH} {w : World} (h : HRel N ε H w) {b : Nat} (hb : Own ε H b) : b < w.heap.size := by
  obtain ⟨k, L, hk, hL, rfl⟩ := hb
  rcases hk with ⟨m, c, hk⟩ | ⟨o, hk, ho⟩
  · obtain ⟨_, arr, el, hw, _⟩ := h.cells k m c L hk hL
    exact (Array.getElem?_eq_some_iff.1 hw).1
  · obtain ⟨_, R, hw, _⟩ := h.others k o L hk ho hL
    exact (Array.getElem?_eq_some_iff.1 hw).1

/-- Another world that has the blocks, an environment that knows more. -/
theorem HRel.move {N : Nat} {ε ε' : Env} {H : IH} {w w' : World} (h : HRel N ε H w) (he : Ext ε ε') (hh : ∀ k, H.has k → ε' k = ε k)
    (hs : w.heap.size ≤ w'.heap.size) (hw : ∀ b, (b < N ∨ Own ε H b) → w'.heap[b]? = w.heap[b]?) : HRel N ε' H w' where
  base := Nat.le_trans h.base hs
  dom := h.dom
  cells k mate c L hk hL := by
    rw [hh k (.inl ⟨_, _, hk⟩)] at hL
    obtain ⟨h1, arr, el, h2, h3, h4⟩ := h.cells k mate c L hk hL
    refine ⟨h1, arr, el, by rw [hw _ (.inr ⟨k, L, .inl ⟨_, _, hk⟩, hL, rfl⟩)]; exact h2, h3, fun j v hj => ?_⟩
    obtain ⟨h5, h6, h7⟩ := h4 j v hj
    have := den_ext he v h6
    exact ⟨by rw [this.1]; exact h5, this.2, h7⟩
  others k o L hk ho hL := by
    rw [hh k (.inr ⟨o, hk, ho⟩)] at hL
    obtain ⟨h1, R, h2, h3⟩ := h.others k o L hk ho hL
    exact ⟨h1, R, by rw [hw _ (.inr ⟨k, L, .inr ⟨o, hk, ho⟩, hL, rfl⟩)]; exact h2, h3.ext he⟩
  sep k k' L L' hk hk' hne hL hL' hb := by
    rw [hh k hk] at hL
    rw [hh k' hk'] at hL'
    exact h.sep k k' L L' hk hk' hne hL hL' hb
  gl g c hg := by
    obtain ⟨h1, arr, el, fr, h2, h3⟩ := h.gl g c hg
    refine ⟨h1, arr, el, fr, by rw [hw _ (.inl h1)]; exact h2, fun j v hj => ?_⟩
    obtain ⟨h5, h6, h7⟩ := h3 j v hj
    have := den_ext he v h6
    exact ⟨by rw [this.1]; exact h5, this.2, h7⟩

/-- A part of the ideal heap. -/
theorem HRel.part {N : Nat} {ε : Env} {H H' : IH} {w : World} (h : HRel N ε H w) (hg : H'.gl = H.gl) (hd : ∀ k, H'.has k → k < H'.nx)
    (hp : ∀ k o, H'.get k = some o → o ≠ .dead → H.get k = some o) : HRel N ε H' w where
  base := h.base
  dom := hd
  cells k mate c L hk hL := h.cells k mate c L (hp _ _ hk (by simp)) hL
  others k o L hk ho hL := h.others k o L (hp _ _ hk (by rintro rfl; cases ho)) ho hL
  sep k k' L L' hk hk' hne hL hL' hb := by
    have up : ∀ k, H'.has k → H.has k := fun k hk => by
      rcases hk with ⟨m, c, hk⟩ | ⟨o, hk, ho⟩
      · exact .inl ⟨m, c, hp _ _ hk (by simp)⟩
      · exact .inr ⟨o, hp _ _ hk (by rintro rfl; cases ho), ho⟩
    obtain ⟨c, hc⟩ := h.sep k k' L L' (up k hk) (up k' hk') hne hL hL' hb
    rcases hk with ⟨m, c', hk1⟩ | ⟨o, hk1, ho⟩
    · have := hp _ _ hk1 (by simp)
      rw [hc] at this
      simp only [Option.some.injEq, IObj.cells.injEq] at this
      exact ⟨c', by rw [hk1, this.1]⟩
    · have := hp _ _ hk1 (by rintro rfl; cases ho)
      rw [hc] at this
      cases this
      cases ho
  gl g c hg' := h.gl g c (by rw [hg] at hg'; exact hg')

/-- What a step of both machines leaves. -/
structure Step (N : Nat) (ε : Env) (H : IH) (w : World) (ε' : Env) (H' : IH) (w' : World) : Prop where
  ext : Ext ε ε'
  new : ∀ k, ε' k ≠ ε k → H.nx ≤ k ∧ k < H'.nx
  nx : H.nx ≤ H'.nx
  rel : HRel N ε' H' w'
  size : w.heap.size ≤ w'.heap.size
  frame : ∀ b, b < w.heap.size → ¬ Own ε H b → w'.heap[b]? = w.heap[b]?
  own : ∀ b, Own ε' H' b → Own ε H b ∨ w.heap.size ≤ b
  os : w'.os = w.os
  tape : w'.tape = w.tape
  output : w'.output = w.output
  gl : H'.gl = H.gl

theorem Step.refl {N : Nat} {ε : Env} {H : IH} {w : World} (h : HRel N ε H w) : Step N ε H w ε H w :=
  ⟨fun _ _ h => h, fun _ h => absurd rfl h, Nat.le_refl _, h, Nat.le_refl _, fun _ _ _ => rfl, fun _ h => .inl h, rfl, rfl, rfl, rfl⟩

theorem Step.trans {N : Nat} {ε ε₁ ε₂ : Env} {H H₁ H₂ : IH} {w w₁ w₂ : World} (a : Step N ε H w ε₁ H₁ w₁) (b : Step N ε₁ H₁ w₁ ε₂ H₂ w₂) : Step N ε H w ε₂ H₂ w₂ where
  ext k L h := b.ext k L (a.ext k L h)
  new k h := by
    by_cases h1 : ε₁ k = ε k
    · have := b.new k (by rw [h1]; exact h)
      exact ⟨Nat.le_trans a.nx this.1, this.2⟩
    · have := a.new k h1
      exact ⟨this.1, Nat.lt_of_lt_of_le this.2 b.nx⟩
  nx := Nat.le_trans a.nx b.nx
  rel := b.rel
  size := Nat.le_trans a.size b.size
  frame k hk ho := by
    rw [b.frame k (Nat.lt_of_lt_of_le hk a.size) (fun h => by rcases a.own k h with h | h; exact ho h; omega), a.frame k hk ho]
  own k h := by
    rcases b.own k h with h | h
    · exact a.own k h
    · exact .inr (Nat.le_trans a.size h)
  os := b.os.trans a.os
  tape := b.tape.trans a.tape
  output := b.output.trans a.output
  gl := b.gl.trans a.gl

/-- A draw. -/
theorem Step.draw {N : Nat} {ε : Env} {H : IH} {w : World} (h : HRel N ε H w) (n : Nat) : Step N ε H w ε H { w with drawn := n } where
  ext _ _ h := h
  new _ h := absurd rfl h
  nx := Nat.le_refl _
  rel := h.move (fun _ _ h => h) (fun _ _ => rfl) (Nat.le_refl _) (fun _ _ => rfl)
  size := Nat.le_refl _
  frame _ _ _ := rfl
  own _ h := .inl h
  os := rfl
  tape := rfl
  output := rfl
  gl := rfl

def upd (ε : Env) (k : Nat) (L : Loc) : Env := fun j => if j = k then some L else ε j

theorem upd_ext {ε : Env} {k : Nat} {L : Loc} (h : ε k = none) : Ext ε (upd ε k L) := by
  intro j M hj
  unfold upd
  by_cases e : j = k
  · subst e; rw [h] at hj; cases hj
  · rw [if_neg e]; exact hj

/-- The world with one block more. -/
def grow (w : World) (o : Obj) : World := { w with heap := w.heap.push o }

theorem grow_get (w : World) (o : Obj) (b : Nat) : (grow w o).heap[b]? = if b = w.heap.size then some o else w.heap[b]? := by
  simp only [grow, Array.getElem?_push]

theorem HRel.fresh_has {N : Nat} {ε : Env} {H : IH} {w : World} (h : HRel N ε H w) {k : Nat} (hk : H.has k) : k < H.nx := h.dom k hk

/-- A new block of cells, the first ones told. -/
theorem Step.alloc {N : Nat} {ε : Env} {H : IH} {w : World} (h : HRel N ε H w) (hf : ε H.nx = none) (mate : Option Nat) (c : List IV) (arr : Array Value) (el : TypeId)
    (hc : ∀ (j : Nat) (v : IV), c[j]? = some v → arr[j]? = some (den ε v) ∧ ok ε v ∧ v.single = true) :
    Step N ε H w (upd ε H.nx ⟨w.heap.size, 0, arr.size⟩) (H.new (.cells mate c)) (grow w (.cells arr el)) := by
  have he : Ext ε (upd ε H.nx ⟨w.heap.size, 0, arr.size⟩) := upd_ext hf
  have hne : ∀ k, H.has k → k ≠ H.nx := fun k hk e => by have := h.fresh_has hk; omega
  have hm := h.move he (fun k hk => by simp [upd, hne k hk]) (w' := grow w (.cells arr el)) (by simp [grow]) (fun b hb => by
    rw [grow_get, if_neg]
    rcases hb with hb | hb
    · have := h.base; omega
    · have := h.own_lt hb; omega)
  have hold : ∀ k, k ≠ H.nx → (H.new (.cells mate c)).get k = H.get k := fun k hk => by simp [Ne.symm hk]
  have hhas : ∀ k, (H.new (.cells mate c)).has k → k = H.nx ∨ H.has k := fun k hk => by
    by_cases e : k = H.nx
    · exact .inl e
    · right; unfold IH.has at *; rw [hold k e] at hk; exact hk
  refine ⟨he, fun k hk => ?_, by simp, ?_, by simp [grow], fun b hb ho => by rw [grow_get, if_neg (by omega)], fun b hb => ?_, rfl, rfl, rfl, by simp⟩
  · by_cases e : k = H.nx
    · subst e; simp
    · simp [upd, e] at hk
  · refine ⟨hm.base, fun k hk => ?_, fun k mate' c' L hk hL => ?_, fun k o L hk ho hL => ?_, fun k k' L L' hk hk' hn hL hL' hb => ?_, ?_⟩
    · rcases hhas k hk with e | e
      · simp [e]
      · have := h.dom k e; simp; omega
    · by_cases e : k = H.nx
      · subst e
        simp [upd] at hk hL
        obtain ⟨rfl, rfl⟩ := hk
        subst hL
        refine ⟨h.base, arr, el, by rw [grow_get, if_pos rfl], rfl, fun j v hj => ?_⟩
        obtain ⟨h1, h2, h3⟩ := hc j v hj
        have := den_ext he v h2
        exact ⟨by simp only [Nat.zero_add]; rw [this.1]; exact h1, this.2, h3⟩
      · rw [hold k e] at hk
        exact hm.cells k mate' c' L hk hL
    · by_cases e : k = H.nx
      · subst e; simp at hk; subst hk; cases ho
      · rw [hold k e] at hk
        exact hm.others k o L hk ho hL
    · have one : ∀ k L, H.has k → upd ε H.nx ⟨w.heap.size, 0, arr.size⟩ k = some L → L.blk < w.heap.size := fun k L hk hL => by
        have h1 : ε k = some L := by simpa [upd, hne k hk] using hL
        exact h.own_lt ⟨k, L, hk, h1, rfl⟩
      rcases hhas k hk with e | e
      · rcases hhas k' hk' with e' | e'
        · exact absurd (e.trans e'.symm) hn
        · have := one k' L' e' hL'
          subst e; simp [upd] at hL; subst hL; simp at hb; omega
      · rcases hhas k' hk' with e' | e'
        · have := one k L e hL
          subst e'; simp [upd] at hL'; subst hL'; simp at hb; omega
        · obtain ⟨c', hc'⟩ := hm.sep k k' L L' e e' hn hL hL' hb
          exact ⟨c', by rw [hold k (hne k e)]; exact hc'⟩
    · exact hm.gl
  · obtain ⟨k, L, hk, hL, rfl⟩ := hb
    rcases hhas k hk with e | e
    · subst e; simp [upd] at hL; subst hL; right; simp
    · left; exact ⟨k, L, e, by simpa [upd, hne k e] using hL, rfl⟩

/-- A new object that is no row of cells. -/
theorem Step.allocOther {N : Nat} {ε : Env} {H : IH} {w : World} (h : HRel N ε H w) (hf : ε H.nx = none) (ob : IObj) (hob : ob.other = true) (Ro : Obj) (hRo : OtherRel ε ob Ro) :
    Step N ε H w (upd ε H.nx ⟨w.heap.size, 0, 0⟩) (H.new ob) (grow w Ro) := by
  have he : Ext ε (upd ε H.nx ⟨w.heap.size, 0, 0⟩) := upd_ext hf
  have hne : ∀ k, H.has k → k ≠ H.nx := fun k hk e => by have := h.fresh_has hk; omega
  have hm := h.move he (fun k hk => by simp [upd, hne k hk]) (w' := grow w Ro) (by simp [grow]) (fun b hb => by
    rw [grow_get, if_neg]
    rcases hb with hb | hb
    · have := h.base; omega
    · have := h.own_lt hb; omega)
  have hold : ∀ k, k ≠ H.nx → (H.new ob).get k = H.get k := fun k hk => by simp [Ne.symm hk]
  have hhas : ∀ k, (H.new ob).has k → k = H.nx ∨ H.has k := fun k hk => by
    by_cases e : k = H.nx
    · exact .inl e
    · right; unfold IH.has at *; rw [hold k e] at hk; exact hk
  refine ⟨he, fun k hk => ?_, by simp, ?_, by simp [grow], fun b hb ho => by rw [grow_get, if_neg (by omega)], fun b hb => ?_, rfl, rfl, rfl, by simp⟩
  · by_cases e : k = H.nx
    · subst e; simp
    · simp [upd, e] at hk
  · refine ⟨hm.base, fun k hk => ?_, fun k mate c' L hk hL => ?_, fun k o L hk ho hL => ?_, fun k k' L L' hk hk' hn hL hL' hb => ?_, ?_⟩
    · rcases hhas k hk with e | e
      · simp [e]
      · have := h.dom k e; simp; omega
    · by_cases e : k = H.nx
      · subst e; simp at hk; subst hk; cases hob
      · rw [hold k e] at hk
        exact hm.cells k mate c' L hk hL
    · by_cases e : k = H.nx
      · subst e
        simp [upd] at hk hL
        subst hk
        subst hL
        exact ⟨h.base, Ro, by rw [grow_get, if_pos rfl], hRo.ext he⟩
      · rw [hold k e] at hk
        exact hm.others k o L hk ho hL
    · have one : ∀ k L, H.has k → upd ε H.nx ⟨w.heap.size, 0, 0⟩ k = some L → L.blk < w.heap.size := fun k L hk hL => by
        have h1 : ε k = some L := by simpa [upd, hne k hk] using hL
        exact h.own_lt ⟨k, L, hk, h1, rfl⟩
      rcases hhas k hk with e | e
      · rcases hhas k' hk' with e' | e'
        · exact absurd (e.trans e'.symm) hn
        · have := one k' L' e' hL'
          subst e; simp [upd] at hL; subst hL; simp at hb; omega
      · rcases hhas k' hk' with e' | e'
        · have := one k L e hL
          subst e'; simp [upd] at hL'; subst hL'; simp at hb; omega
        · obtain ⟨c', hc'⟩ := hm.sep k k' L L' e e' hn hL hL' hb
          exact ⟨c', by rw [hold k (hne k e)]; exact hc'⟩
    · exact hm.gl
  · obtain ⟨k, L, hk, hL, rfl⟩ := hb
    rcases hhas k hk with e | e
    · subst e; simp [upd] at hL; subst hL; right; simp
    · left; exact ⟨k, L, e, by simpa [upd, hne k e] using hL, rfl⟩

/-- A new map. -/
theorem Step.allocMap {N : Nat} {ε : Env} {H : IH} {w : World} (h : HRel N ε H w) (hf : ε H.nx = none) :
    Step N ε H w (upd ε H.nx ⟨w.heap.size, 0, 0⟩) (H.new (.map [])) (grow w (.map #[] 0)) :=
  Step.allocOther h hf (.map []) rfl _ ⟨#[], 0, rfl, rfl, fun x hx => by cases hx⟩

end Go.Proofs.YtpppmgfiidlfjaaGreatDoor.Sim
