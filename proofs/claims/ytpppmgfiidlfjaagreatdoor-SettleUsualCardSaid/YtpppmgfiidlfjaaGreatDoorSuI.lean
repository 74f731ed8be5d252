/-
  New rows and composite literals are simulated.
-/
import Derived.Test.YtpppmgfiidlfjaaGreatDoorSuH
import Derived.Great.FillDense
import Derived.Laws.Append
import Derived.Laws.AppendOwn
set_option linter.unusedSimpArgs false
set_option linter.unusedVariables false
set_option linter.unusedSectionVars false
namespace Go.Proofs.YtpppmgfiidlfjaaGreatDoor.Sim
section
variable {P : Program} {N : Nat} {ε : Env} {H : IH} {w : World} {ty : TypeId → Option TI} (hty : TysOk P ty)

theorem singles_iff {l : List IV} : l.all IV.single = true ↔ ∀ v, v ∈ l → v.single = true := by simp

theorem dens_get (ε : Env) (l : List IV) (j : Nat) : (dens ε l)[j]? = (l[j]?).map (den ε) := by rw [dens_map, List.getElem?_map]

/-- Cells that may be stored. -/
theorem cells_row {c : List IV} (hok : oks ε c) (hs : c.all IV.single = true) (j : Nat) (v : IV) (hj : c[j]? = some v) : ((dens ε c).toArray)[j]? = some (den ε v) ∧ ok ε v ∧ v.single = true := by
  have hm := List.mem_of_getElem? hj
  exact ⟨by rw [List.getElem?_toArray, dens_get, hj]; rfl, (oks_iff ε c).1 hok v hm, singles_iff.1 hs v hm⟩

theorem sim_newRow (h : HRel N ε H w) (hf : ε H.nx = none) {c : List IV} (hok : oks ε c) (hs : c.all IV.single = true) (t : TypeId) :
    ∃ w', (newRow t (dens ε c).toArray).run P w = .ok ⟨w.heap.size, 0, none⟩ w' ∧ Step N ε H w (upd ε H.nx ⟨w.heap.size, 0, c.length⟩) (H.new (.cells none c)) w' := by
  refine ⟨grow w (.cells (dens ε c).toArray t), by simp [newRow, grow], ?_⟩
  have := Step.alloc h hf none c (dens ε c).toArray t (cells_row hok hs)
  simpa using this

theorem den_new (k n o : Nat) (L : Loc) : den (upd ε k L) (.p k o) = .pointer (some ⟨L.blk, L.sh + o, none⟩) := by simp [den, upd]

/- Copies of a zero. -/
theorem reps_succ (n : Nat) (l : List IV) : reps (n + 1) l = l ++ reps n l := rfl
@[simp] theorem reps_length (n : Nat) (l : List IV) : (reps n l).length = n * l.length := by
  induction n with
  | zero => simp [reps]
  | succ n ih => rw [reps_succ, List.length_append, ih, Nat.add_mul, Nat.one_mul, Nat.add_comm]
theorem reps_get (l : List IV) (hl : 0 < l.length) : ∀ (n j : Nat), (reps n l)[j]? = if j < n * l.length then l[j % l.length]? else none
  | 0, j => by simp [reps]
  | n + 1, j => by
    rw [reps_succ]
    by_cases h : j < l.length
    · rw [List.getElem?_append_left h, if_pos (by rw [Nat.add_mul]; omega), Nat.mod_eq_of_lt h]
    · rw [List.getElem?_append_right (by omega), reps_get l hl n]
      have e : (j - l.length) % l.length = j % l.length := by rw [Nat.mod_eq_sub_mod (a := j) (by omega)]
      rw [e]
      by_cases h2 : j - l.length < n * l.length
      · rw [if_pos h2, if_pos (by rw [Nat.add_mul]; omega)]
      · rw [if_neg h2, if_neg (by rw [Nat.add_mul]; omega)]
theorem reps_mem {l : List IV} {v : IV} : ∀ {n : Nat}, v ∈ reps n l → v ∈ l
  | 0, h => by simp [reps] at h
  | n + 1, h => by
    rw [reps_succ] at h
    rcases List.mem_append.1 h with h | h
    · exact h
    · exact reps_mem h

theorem range_row (l : List IV) (n m : Nat) (hl : 0 < l.length) (hm : m = n * l.length) :
    ((Array.range m).map fun i => ((dens ε l).toArray)[i % (dens ε l).toArray.size]!) = (dens ε (reps n l)).toArray := by
  apply Array.ext'
  apply List.ext_getElem?
  intro j
  simp only [Array.toList_map, List.getElem?_map, dens_get, reps_get l hl, List.size_toArray, dens_length]
  by_cases h : j < m
  · have h1 : (Array.range m).toList[j]? = some j := by simp [h]
    have h2 : j % l.length < l.length := Nat.mod_lt _ hl
    rw [h1, if_pos (by omega)]
    simp [dens_map, h2]
  · have h1 : (Array.range m).toList[j]? = none := by simp; omega
    rw [h1, if_neg (by omega)]
    rfl

theorem zeroCells_row (l : List IV) (n : Nat) (hl : 0 < l.length) : Builtin.zeroCells (dens ε l).toArray n = (dens ε (reps n l)).toArray := by
  have := range_row (ε := ε) l n (n * l.length) hl rfl
  simpa [Builtin.zeroCells] using this

/- Literals. -/
theorem fillI_nil (place : Nat → Option (Nat × Nat)) (cells : List IV) : fillI place cells [] = some cells := rfl
theorem fillI_cons (place : Nat → Option (Nat × Nat)) (cells : List IV) (x : Nat × IV) (l : List (Nat × IV)) :
    fillI place cells (x :: l) = (place x.1).bind (fillOne cells x.2 fun c => fillI place c l) := rfl

theorem splice_den {o : Nat} {c l r : List IV} (h : splice c o l = some r) :
    (((dens ε l).zipIdx 0).foldl (fun cs (x : Value × Nat) => cs.setIfInBounds (o + x.2) x.1) (dens ε c).toArray) = (dens ε r).toArray := by
  obtain ⟨h1, h2⟩ := Great.foldl_set o (dens ε l) 0 (dens ε c).toArray
  have hle := (splice_some _ _ _ _ h).1
  apply Array.ext'
  apply List.ext_getElem?
  intro j
  rw [Array.getElem?_toList, h2 j]
  show _ = (dens ε r)[j]?
  rw [dens_get ε r, splice_get h j]
  simp only [Nat.add_zero, dens_length, List.size_toArray, List.getElem?_toArray, dens_get]
  by_cases a1 : j < o
  · rw [if_neg (by omega), if_pos a1]
  · rw [if_neg a1]
    by_cases a2 : j < o + l.length
    · rw [if_pos (by omega), if_pos a2]
    · rw [if_neg (by omega), if_neg a2]

theorem fill_den {placeR place : Nat → Option (Nat × Nat)} (hp : ∀ i x, place i = some x → placeR i = some x) : ∀ (l : List (Nat × IV)) (c r : List IV), oks ε c → (∀ x, x ∈ l → ok ε x.2) → fillI place c l = some r →
    Instr.fill placeR (dens ε c).toArray (l.map fun x => (x.1, den ε x.2)) = some (dens ε r).toArray ∧ oks ε r
  | [], c, r, hc, hl, h => by simp only [fillI_nil, Option.some.injEq] at h; subst h; exact ⟨rfl, hc⟩
  | (i, v) :: l, c, r, hc, hl, h => by
    simp only [fillI_cons, Option.bind_eq_some_iff] at h
    obtain ⟨⟨off, size⟩, hpl, h⟩ := h
    unfold fillOne at h
    cases hb : Nat.beq v.cells.length size with
    | false => simp [hb] at h
    | true =>
      simp only [hb, cond_true, Option.bind_eq_some_iff] at h
      obtain ⟨c', hs, h⟩ := h
      have hsz : v.cells.length = size := Nat.eq_of_beq_eq_true hb
      have hv : ok ε v := hl (i, v) (by simp)
      have hle := (splice_some _ _ _ _ hs).1
      have hc' : oks ε c' := by
        obtain ⟨_, rfl⟩ := splice_some _ _ _ _ hs
        rw [oks_iff] at hc ⊢
        have hvc := (oks_iff ε _).1 (ok_cells hv)
        intro x hx
        simp only [List.mem_append] at hx
        rcases hx with (hx | hx) | hx
        · exact hc x (List.mem_of_mem_take hx)
        · exact hvc x hx
        · exact hc x (List.mem_of_mem_drop hx)
      have ih := fill_den hp l c' r hc' (fun x hx => hl x (by simp [hx])) h
      refine ⟨?_, ih.2⟩
      rw [← ih.1]
      simp only [List.map_cons, Instr.fill, hp i _ hpl, den_cells v hv]
      rw [if_neg (by simp [hsz]; omega)]
      congr 1
      rw [← splice_den hs, ← Array.foldl_toList, Array.toList_zipIdx]

theorem placesOf_spec {P : Program} {ty : TypeId → Option TI} (hty : TysOk P ty) : ∀ (fs : List Field) (ps : List (Nat × Nat)), placesOf ty (fs.map fun f => (f.type, f.offset)) = some ps →
    fs.mapM (fun f => (P.info? f.type).map fun i => (f.offset, i.size)) = some ps
  | [], ps, h => by
    have : some [] = some ps := h
    cases this; rfl
  | f :: fs, ps, h => by
    have h : ((ty f.type).bind fun fi => (placesOf ty (fs.map fun f => (f.type, f.offset))).map ((f.offset, fi.size) :: ·)) = some ps := h
    simp only [Option.bind_eq_some_iff, Option.map_eq_some_iff] at h
    obtain ⟨fi, hfi, ps', hps, rfl⟩ := h
    have := placesOf_spec hty fs ps' hps
    obtain ⟨i, hi, hs, _⟩ := (hty _ _ hfi).info
    simp [List.mapM_cons, hi, this, hs]

include hty in
theorem sim_build {t : TypeId} {parts : List (Nat × IV)} {v : IV} (hl : ∀ x, x ∈ parts → ok ε x.2) (h : ibuild ty t parts = some v) :
    (Instr.build t (parts.map fun x => (x.1, den ε x.2)).toArray).run P w = .ok (den ε v) w ∧ ok ε v := by
  simp only [ibuild, Option.bind_eq_some_iff] at h
  obtain ⟨ti, ht, z, hz, h⟩ := h
  obtain ⟨d, hu, he, _⟩ := (hty t ti ht).und
  obtain ⟨it, hit, _, _, hzz⟩ := (hty t ti ht).info
  obtain ⟨zv, hzv, hov⟩ := hzz z hz
  have hzd := ofVal_den ε zv z hov
  have hzc : zv.cells = (dens ε z.cells).toArray := by rw [← hzd.1]; exact den_cells z hzd.2
  split at h
  · rename_i fs hd
    rw [hd] at he
    obtain ⟨fields, rfl, rfl⟩ := descTy_struct he
    simp only [Option.bind_eq_some_iff, Option.map_eq_some_iff] at h
    obtain ⟨ps, hps, c, hc, rfl⟩ := h
    have hpl := placesOf_spec hty _ _ hps
    have hf := fill_den (ε := ε) (placeR := (ps.toArray[·]?)) (place := place ps) (fun i x hx => by simpa [place] using hx) parts z.cells c (ok_cells hzd.2) hl hc
    refine ⟨?_, hf.2⟩
    have hb : P.built t (parts.map fun x => (x.1, den ε x.2)) = some (dens ε c).toArray := by
      simp only [Program.built, hit, hu, hzv, hpl, hzc]
      exact hf.1
    exact run_build w t _ _ (by simpa using hb)
  · rename_i n e hd
    rw [hd] at he
    obtain rfl := descTy_arr he
    simp only [Option.bind_eq_some_iff, Option.map_eq_some_iff] at h
    obtain ⟨ei, hei, c, hc, rfl⟩ := h
    obtain ⟨ie, hie, hes, _⟩ := (hty _ _ hei).info
    have hf := fill_den (ε := ε) (placeR := fun i => some (i * ie.size, ie.size)) (place := placeArr ei.size) (fun i x hx => by rw [hes]; simpa [placeArr] using hx) parts z.cells c (ok_cells hzd.2) hl hc
    refine ⟨?_, hf.2⟩
    have hb : P.built t (parts.map fun x => (x.1, den ε x.2)) = some (dens ε c).toArray := by
      simp only [Program.built, hit, hu, hzv, hie, hzc]
      exact hf.1
    exact run_build w t _ _ (by simpa using hb)
  · cases h

include hty in
theorem sim_buildSlice {t : TypeId} {len : Nat} {parts : List (Nat × IV)} {v : IV} {H' : IH} (hr : HRel N ε H w) (hfr : ε H.nx = none) (hl : ∀ x, x ∈ parts → ok ε x.2) (h : ibuildSlice ty t H len parts = some (v, H')) :
    ∃ ε' w', (Instr.buildSlice t len (parts.map fun x => (x.1, den ε x.2)).toArray).run P w = .ok (den ε' v) w' ∧ ok ε' v ∧ Step N ε H w ε' H' w' := by
  simp only [ibuildSlice, Option.bind_eq_some_iff] at h
  obtain ⟨ti, ht, h⟩ := h
  obtain ⟨d, hu, he, _⟩ := (hty t ti ht).und
  split at h
  · rename_i e hd
    rw [hd] at he
    obtain rfl := descTy_slice he
    simp only [Option.bind_eq_some_iff] at h
    obtain ⟨ei, hei, z, hz, h⟩ := h
    have hzr := (hty _ _ hei).run_zero hz ε w
    cases hb : Nat.ble (len * ei.size) 1048576 && Nat.beq z.cells.length ei.size && Nat.blt 0 ei.size with
    | false => simp [hb] at h
    | true =>
      simp only [hb, cond_true, Option.bind_eq_some_iff] at h
      simp only [Bool.and_eq_true] at hb
      obtain ⟨⟨hb1, hb2⟩, hb3⟩ := hb
      have hb1 := Nat.le_of_ble_eq_true hb1
      have hb2 := Nat.eq_of_beq_eq_true hb2
      have hb3 := blt_iff.1 hb3
      obtain ⟨c, hc, h⟩ := h
      cases hs : c.all IV.single with
      | false => simp [hs] at h
      | true =>
        simp only [hs, cond_true, Option.some.injEq, Prod.mk.injEq] at h
        obtain ⟨rfl, rfl⟩ := h
        have hrepok : oks ε (reps len z.cells) := (oks_iff ε _).2 fun v hv => (oks_iff ε _).1 (ok_cells hzr.2) v (reps_mem hv)
        have hf := fill_den (ε := ε) (placeR := fun i => some (i * ei.size, ei.size)) (place := placeArr ei.size) (fun i x hx => hx) parts (reps len z.cells) c hrepok hl hc
        have hlen : c.length = len * ei.size := by
          have : ∀ (l : List (Nat × IV)) (a b : List IV), fillI (placeArr ei.size) a l = some b → b.length = a.length := by
            intro l
            induction l with
            | nil => intro a b h; simp only [fillI_nil, Option.some.injEq] at h; rw [h]
            | cons x l ih =>
              intro a b h
              simp only [fillI_cons, Option.bind_eq_some_iff] at h
              obtain ⟨p, _, h⟩ := h
              unfold fillOne at h
              cases hb : Nat.beq x.2.cells.length p.2 with
              | false => simp [hb] at h
              | true =>
                simp only [hb, cond_true, Option.bind_eq_some_iff] at h
                obtain ⟨a', ha, h⟩ := h
                rw [ih a' b h, splice_length ha]
          rw [this _ _ _ hc, reps_length, hb2]
        obtain ⟨w', hnr, hst⟩ := sim_newRow (P := P) hr hfr hf.2 hs e
        refine ⟨_, w', ?_, ?_, hst⟩
        · have hzrow : ((Array.range (len * ei.size)).map fun i => ((if len * ei.size = 0 then #[] else (dens ε z.cells).toArray))[i % (if len * ei.size = 0 then #[] else (dens ε z.cells).toArray).size]!) = (dens ε (reps len z.cells)).toArray := by
            by_cases h0 : len * ei.size = 0
            · have : len = 0 := by rcases Nat.mul_eq_zero.1 h0 with h | h <;> omega
              subst this
              simp [reps, dens]
            · simp only [h0, if_false]
              exact range_row z.cells len (len * ei.size) (by omega) (by rw [hb2])
          simp only [Instr.buildSlice, Sem.run_bind, run_underlying hu, Result.andThen_ok, (hty _ _ hei).run_sizeOf]
          rw [if_neg (by omega)]
          have fin : den (upd ε H.nx ⟨w.heap.size, 0, c.length⟩) (IV.sl H.nx 0 len len true ei.size) = .slice (some ⟨w.heap.size, 0, none⟩) len len := by
            simp [den, upd]
          rw [fin]
          by_cases h0 : len * ei.size = 0
          · rw [if_pos h0]
            simp only [h0, if_true] at hzrow
            simp only [Sem.run_bind, Sem.run_pure, Result.andThen_ok, h0, hzrow, hf.1, hnr]
          · rw [if_neg h0]
            simp only [h0, if_false] at hzrow
            simp only [Sem.run_bind, Sem.run_pure, Result.andThen_ok, hzr.1, den_cells z hzr.2, hzrow, hf.1, hnr]
        · exact ⟨_, by simp [upd]; rfl, hb3, Nat.le_refl _, by simp [hlen]⟩
  · cases h

end
end Go.Proofs.YtpppmgfiidlfjaaGreatDoor.Sim
