/-
  Steps of blocks of cells, of maps and of loop records; reading and writing cells.
-/
import Derived.Test.YtpppmgfiidlfjaaGreatDoorSuC
import Derived.Laws.Cells
import Derived.Laws.CopyRow
set_option linter.unusedSimpArgs false
set_option linter.unusedVariables false
set_option linter.unusedSectionVars false
namespace Go.Proofs.YtpppmgfiidlfjaaGreatDoor.Sim
variable {N : Nat} {ε : Env} {H : IH} {w : World}

theorem setRow_os (w : World) (g : Nat) (cs : Array Value) : (w.setRow g cs).os = w.os ∧ (w.setRow g cs).tape = w.tape ∧ (w.setRow g cs).output = w.output := ⟨rfl, rfl, rfl⟩

/-- A block of cells whose row is another one. -/
theorem Step.row {k : Nat} {mate : Option Nat} {c : List IV} {L : Loc} {arr : Array Value} {el : TypeId} (h : HRel N ε H w) (hk : H.get k = some (.cells mate c)) (hL : ε k = some L)
    (hw : w.heap[L.blk]? = some (.cells arr el (0, 0))) (arr' : Array Value) (hs : arr'.size = L.n) (mate' : Option Nat) (c' : List IV)
    (hc : ∀ (j : Nat) (v : IV), c'[j]? = some v → arr'[L.sh + j]? = some (den ε v) ∧ ok ε v ∧ v.single = true) :
    Step N ε H w ε ((H.kill mate).put k (.cells mate' c')) (w.setRow L.blk arr') := by
  have hN : N ≤ L.blk := (h.cells k mate c L hk hL).1
  have hask : H.has k := .inl ⟨_, _, hk⟩
  have hget : ∀ k', k' ≠ k → ((H.kill mate).put k (.cells mate' c')).get k' = if mate = some k' then some .dead else H.get k' := fun k' hn => by
    simp [Ne.symm hn, IH.get_kill]
  have hgetk : ((H.kill mate).put k (.cells mate' c')).get k = some (.cells mate' c') := by simp
  have hhas : ∀ k', ((H.kill mate).put k (.cells mate' c')).has k' → k' = k ∨ (k' ≠ k ∧ mate ≠ some k' ∧ H.has k' ∧ ((H.kill mate).put k (.cells mate' c')).get k' = H.get k') := fun k' hh => by
    by_cases e : k' = k
    · exact .inl e
    · right
      have := hget k' e
      by_cases em : mate = some k'
      · rw [if_pos em] at this; rcases hh with ⟨m, c, hh⟩ | ⟨o, hh, ho⟩
        · rw [this] at hh; cases hh
        · rw [this] at hh; cases hh; cases ho
      · rw [if_neg em] at this
        refine ⟨e, em, ?_, this⟩
        unfold IH.has at *; rw [this] at hh; exact hh
  have hblk : ∀ k' L', k' ≠ k → mate ≠ some k' → H.has k' → ε k' = some L' → L'.blk ≠ L.blk := fun k' L' hn hm hh hL' e => by
    obtain ⟨c0, hc0⟩ := h.sep k k' L L' hask hh (Ne.symm hn) hL hL' e.symm
    rw [hk] at hc0
    simp only [Option.some.injEq, IObj.cells.injEq] at hc0
    exact hm hc0.1
  refine ⟨fun _ _ h => h, fun _ h => absurd rfl h, by simp, ?_, by simp, fun b hb ho => setRow_other _ _ _ _ (fun e => ho ⟨k, L, hask, hL, e.symm⟩), fun b hb => ?_, rfl, rfl, rfl, by simp⟩
  · refine ⟨by simpa using h.base, fun k' hk' => ?_, fun k' m1 c1 L1 h1 hL1 => ?_, fun k' o1 L1 h1 ho1 hL1 => ?_, fun k1 k2 L1 L2 hh1 hh2 hne hL1 hL2 hb => ?_, fun g c1 hg => ?_⟩
    · obtain e | ⟨_, _, hh, _⟩ := hhas k' hk'
      · subst e; simpa using h.dom _ hask
      · simpa using h.dom _ hh
    · by_cases e : k' = k
      · subst e
        rw [hgetk] at h1
        simp only [Option.some.injEq, IObj.cells.injEq] at h1
        obtain ⟨rfl, rfl⟩ := h1
        rw [hL] at hL1; cases hL1
        exact ⟨hN, arr', el, setRow_heap _ _ _ _ _ _ hw, hs, hc⟩
      · obtain e' | ⟨_, hm, hh, hg⟩ := hhas k' (.inl ⟨_, _, h1⟩)
        · exact absurd e' e
        · rw [hg] at h1
          obtain ⟨a1, arr1, el1, a2, a3, a4⟩ := h.cells k' m1 c1 L1 h1 hL1
          exact ⟨a1, arr1, el1, by rw [setRow_other _ _ _ _ (hblk k' L1 e hm hh hL1)]; exact a2, a3, a4⟩
    · obtain e' | ⟨e, hm, hh, hg⟩ := hhas k' (.inr ⟨_, h1, ho1⟩)
      · subst e'; rw [hgetk] at h1; cases h1; cases ho1
      · rw [hg] at h1
        obtain ⟨a1, R1, a2, a3⟩ := h.others k' o1 L1 h1 ho1 hL1
        exact ⟨a1, R1, by rw [setRow_other _ _ _ _ (hblk k' L1 e hm hh hL1)]; exact a2, a3⟩
    · obtain e1 | ⟨e1, m1, hh1', hg1⟩ := hhas k1 hh1
      · obtain e2 | ⟨e2, m2, hh2', hg2⟩ := hhas k2 hh2
        · exact absurd (e1.trans e2.symm) hne
        · subst e1; rw [hL] at hL1; cases hL1
          exact absurd hb.symm (hblk k2 L2 e2 m2 hh2' hL2)
      · obtain e2 | ⟨e2, m2, hh2', hg2⟩ := hhas k2 hh2
        · subst e2; rw [hL] at hL2; cases hL2
          exact absurd hb (hblk k1 L1 e1 m1 hh1' hL1)
        · obtain ⟨c0, hc0⟩ := h.sep k1 k2 L1 L2 hh1' hh2' hne hL1 hL2 hb
          exact ⟨c0, by rw [hg1]; exact hc0⟩
    · obtain ⟨a1, arr1, el1, fr1, a2, a3⟩ := h.gl g c1 (by simpa using hg)
      exact ⟨a1, arr1, el1, fr1, by rw [setRow_other _ _ _ _ (by omega)]; exact a2, a3⟩
  · obtain ⟨k', L', hh, hL', rfl⟩ := hb
    obtain e | ⟨e, hm, hh', hg⟩ := hhas k' hh
    · subst e; rw [hL] at hL'; cases hL'; exact .inl ⟨_, _, hask, hL, rfl⟩
    · exact .inl ⟨k', L', hh', hL', rfl⟩

/-- One more ideal block in a real one. -/
theorem Step.alias {k : Nat} {c : List IV} {L : Loc} {arr : Array Value} {el : TypeId} (h : HRel N ε H w) (hk : H.get k = some (.cells (some H.nx) c)) (hL : ε k = some L)
    (hf : ε H.nx = none) (hw : w.heap[L.blk]? = some (.cells arr el (0, 0))) (hn : arr.size = L.n) (o : Nat) (c' : List IV)
    (hc : ∀ (j : Nat) (v : IV), c'[j]? = some v → arr[L.sh + o + j]? = some (den ε v) ∧ ok ε v ∧ v.single = true) :
    Step N ε H w (upd ε H.nx ⟨L.blk, L.sh + o, L.n⟩) (H.new (.cells (some k) c')) w := by
  have he : Ext ε (upd ε H.nx ⟨L.blk, L.sh + o, L.n⟩) := upd_ext hf
  have hask : H.has k := .inl ⟨_, _, hk⟩
  have hne : ∀ k, H.has k → k ≠ H.nx := fun k hk e => by have := h.dom k hk; omega
  have hm := h.move he (fun k hk => by simp [upd, hne k hk]) (w' := w) (Nat.le_refl _) (fun _ _ => rfl)
  have hold : ∀ k₁, k₁ ≠ H.nx → (H.new (.cells (some k) c')).get k₁ = H.get k₁ := fun k₁ hk => by simp [Ne.symm hk]
  have hhas : ∀ k₁, (H.new (.cells (some k) c')).has k₁ → k₁ = H.nx ∨ H.has k₁ := fun k₁ hk => by
    by_cases e : k₁ = H.nx
    · exact .inl e
    · right; unfold IH.has at *; rw [hold k₁ e] at hk; exact hk
  have hN : N ≤ L.blk := (h.cells k _ c L hk hL).1
  refine ⟨he, fun k₁ hk₁ => ?_, by simp, ?_, Nat.le_refl _, fun _ _ _ => rfl, fun b hb => ?_, rfl, rfl, rfl, by simp⟩
  · by_cases e : k₁ = H.nx
    · subst e; simp
    · simp [upd, e] at hk₁
  · refine ⟨hm.base, fun k₁ hk₁ => ?_, fun k₁ m₁ c₁ L₁ hk₁ hL₁ => ?_, fun k₁ o₁ L₁ hk₁ ho₁ hL₁ => ?_, fun k₁ k₂ L₁ L₂ hk₁ hk₂ hn hL₁ hL₂ hb => ?_, hm.gl⟩
    · rcases hhas k₁ hk₁ with e | e
      · simp [e]
      · have := h.dom k₁ e; simp; omega
    · by_cases e : k₁ = H.nx
      · subst e
        simp [upd] at hk₁ hL₁
        obtain ⟨rfl, rfl⟩ := hk₁
        subst hL₁
        refine ⟨hN, arr, el, hw, hn, fun j v hj => ?_⟩
        obtain ⟨h1, h2, h3⟩ := hc j v hj
        have := den_ext he v h2
        exact ⟨by rw [this.1]; exact h1, this.2, h3⟩
      · rw [hold k₁ e] at hk₁
        exact hm.cells k₁ m₁ c₁ L₁ hk₁ hL₁
    · by_cases e : k₁ = H.nx
      · subst e; simp at hk₁; subst hk₁; cases ho₁
      · rw [hold k₁ e] at hk₁
        exact hm.others k₁ o₁ L₁ hk₁ ho₁ hL₁
    · have key : ∀ k₂ L₂, H.has k₂ → upd ε H.nx ⟨L.blk, L.sh + o, L.n⟩ k₂ = some L₂ → L₂.blk = L.blk → k₂ = k := fun k₂ L₂ h2 hL2 hb2 => by
        by_cases e : k₂ = k
        · exact e
        · have hL2' : ε k₂ = some L₂ := by simpa [upd, hne k₂ h2] using hL2
          obtain ⟨c0, hc0⟩ := h.sep k k₂ L L₂ hask h2 (Ne.symm e) hL hL2' hb2.symm
          rw [hk] at hc0
          simp only [Option.some.injEq, IObj.cells.injEq] at hc0
          exact absurd hc0.1.symm (hne k₂ h2)
      rcases hhas k₁ hk₁ with e | e
      · rcases hhas k₂ hk₂ with e' | e'
        · exact absurd (e.trans e'.symm) hn
        · subst e
          simp [upd] at hL₁; subst hL₁
          have := key k₂ L₂ e' hL₂ hb.symm
          subst this
          exact ⟨c', by simp⟩
      · rcases hhas k₂ hk₂ with e' | e'
        · subst e'
          simp [upd] at hL₂; subst hL₂
          have := key k₁ L₁ e hL₁ hb
          subst this
          exact ⟨c, by rw [hold _ (hne _ e)]; exact hk⟩
        · obtain ⟨c0, hc0⟩ := hm.sep k₁ k₂ L₁ L₂ e e' hn hL₁ hL₂ hb
          exact ⟨c0, by rw [hold k₁ (hne k₁ e)]; exact hc0⟩
  · obtain ⟨k₁, L₁, hk₁, hL₁, rfl⟩ := hb
    rcases hhas k₁ hk₁ with e | e
    · subst e; simp [upd] at hL₁; subst hL₁; left; exact ⟨k, L, hask, hL, rfl⟩
    · left; exact ⟨k₁, L₁, e, by simpa [upd, hne k₁ e] using hL₁, rfl⟩

/-- The world with another object in the place of a block. -/
def setObjAt (w : World) (b : Nat) (o : Obj) : World := { w with heap := w.heap.setIfInBounds b o }

theorem setObjAt_get (w : World) (b k : Nat) (o : Obj) : (setObjAt w b o).heap[k]? = if k = b ∧ b < w.heap.size then some o else w.heap[k]? := by
  simp only [setObjAt, Array.getElem?_setIfInBounds]
  by_cases h : b = k
  · subst h
    by_cases h2 : b < w.heap.size
    · simp [h2]
    · simp [h2]
  · have : ¬ k = b := fun e => h e.symm
    simp [h, this]

/-- Another object in the place of one, neither a row of cells. -/
theorem Step.otherPut {k : Nat} {o : IObj} {L : Loc} (h : HRel N ε H w) (hk : H.get k = some o) (ho : o.other = true) (hL : ε k = some L)
    (o' : IObj) (ho' : o'.other = true) (R' : Obj) (hR : OtherRel ε o' R') :
    Step N ε H w ε (H.put k o') (setObjAt w L.blk R') := by
  obtain ⟨hN, R, hw, _⟩ := h.others k o L hk ho hL
  have hlt : L.blk < w.heap.size := (Array.getElem?_eq_some_iff.1 hw).1
  have hask : H.has k := .inr ⟨_, hk, ho⟩
  have hget : ∀ k', k' ≠ k → (H.put k o').get k' = H.get k' := fun k' hn => by simp [Ne.symm hn]
  have hhas : ∀ k', (H.put k o').has k' → H.has k' := fun k' hh => by
    by_cases e : k' = k
    · subst e; exact hask
    · unfold IH.has at *; rw [hget k' e] at hh; exact hh
  have hblk : ∀ k' L', k' ≠ k → H.has k' → ε k' = some L' → L'.blk ≠ L.blk := fun k' L' hn hh hL' e => by
    obtain ⟨c0, hc0⟩ := h.sep k k' L L' hask hh (Ne.symm hn) hL hL' e.symm
    rw [hk] at hc0; cases hc0; cases ho
  have hsame : ∀ b, b ≠ L.blk → (setObjAt w L.blk R').heap[b]? = w.heap[b]? := fun b hb => by rw [setObjAt_get, if_neg (fun e => hb e.1)]
  refine ⟨fun _ _ h => h, fun _ h => absurd rfl h, by simp, ?_, by simp [setObjAt], fun b hb ho => hsame b (fun e => ho ⟨k, L, hask, hL, e.symm⟩), fun b hb => ?_, rfl, rfl, rfl, by simp⟩
  · refine ⟨by simpa [setObjAt] using h.base, fun k' hk' => by simpa using h.dom k' (hhas k' hk'), fun k' m1 c1 L1 h1 hL1 => ?_, fun k' o1 L1 h1 ho1 hL1 => ?_, fun k1 k2 L1 L2 hh1 hh2 hne hL1 hL2 hb => ?_, fun g c1 hg => ?_⟩
    · have e : k' ≠ k := fun e => by subst e; simp at h1; subst h1; cases ho'
      rw [hget k' e] at h1
      obtain ⟨a1, arr1, el1, a2, a3, a4⟩ := h.cells k' m1 c1 L1 h1 hL1
      exact ⟨a1, arr1, el1, by rw [hsame _ (hblk k' L1 e (.inl ⟨_, _, h1⟩) hL1)]; exact a2, a3, a4⟩
    · by_cases e : k' = k
      · subst e
        simp at h1; subst h1
        rw [hL] at hL1; cases hL1
        exact ⟨hN, R', by rw [setObjAt_get, if_pos ⟨rfl, hlt⟩], hR⟩
      · rw [hget k' e] at h1
        obtain ⟨a1, R1, a2, a3⟩ := h.others k' o1 L1 h1 ho1 hL1
        exact ⟨a1, R1, by rw [hsame _ (hblk k' L1 e (.inr ⟨_, h1, ho1⟩) hL1)]; exact a2, a3⟩
    · obtain ⟨c0, hc0⟩ := h.sep k1 k2 L1 L2 (hhas k1 hh1) (hhas k2 hh2) hne hL1 hL2 hb
      have e : k1 ≠ k := fun e => by subst e; rw [hk] at hc0; cases hc0; cases ho
      exact ⟨c0, by rw [hget k1 e]; exact hc0⟩
    · obtain ⟨a1, arr1, el1, fr1, a2, a3⟩ := h.gl g c1 (by simpa using hg)
      exact ⟨a1, arr1, el1, fr1, by rw [hsame _ (by omega)]; exact a2, a3⟩
  · obtain ⟨k', L', hh, hL', rfl⟩ := hb
    exact .inl ⟨k', L', hhas k' hh, hL', rfl⟩

/-- A map with other entries. -/
theorem Step.mapPut {k : Nat} {es : List (IV × IV)} {L : Loc} {arr : Array MapEntry} {cl : Nat} (h : HRel N ε H w) (hk : H.get k = some (.map es)) (hL : ε k = some L)
    (_hw : w.heap[L.blk]? = some (.map arr cl)) (arr' : Array MapEntry) (cl' : Nat) (es' : List (IV × IV))
    (hr : arr'.toList.map (fun e => (e.key, e.val)) = es'.map (fun x => (den ε x.1, den ε x.2))) (hok : ∀ x, x ∈ es' → ok ε x.1 ∧ ok ε x.2) :
    Step N ε H w ε (H.put k (.map es')) (setObjAt w L.blk (.map arr' cl')) :=
  Step.otherPut h hk rfl hL (.map es') rfl _ ⟨arr', cl', rfl, hr, hok⟩

/- Reading. -/
theorem addr_add (b o i : Nat) : (⟨b, o, none⟩ : Addr).add i = ⟨b, o + i, none⟩ := by
  unfold Addr.add; split
  · rename_i h; simp [h]
  · rfl

theorem cell_at {w : World} {b : Nat} {arr : Array Value} {el : TypeId} {fr : Nat × Nat} (hw : w.heap[b]? = some (.cells arr el fr)) (o : Nat) : w.cell? ⟨b, o, none⟩ = arr[o]? := by
  simp [World.cell?, hw]

theorem cellsAt_some {k o n : Nat} {l : List IV} (hc : H.cellsAt k o n = some l) : ∃ mate c, H.get k = some (.cells mate c) ∧ o + n ≤ c.length ∧ l = (c.drop o).take n := by
  unfold IH.cellsAt at hc
  cases hg : H.get k with
  | none => simp [hg] at hc
  | some ob =>
    rw [hg] at hc
    cases ob with
    | cells mate c => exact ⟨mate, c, rfl, sub_some _ _ _ _ hc⟩
    | map es => simp at hc
    | loop _ => simp at hc
    | dead => simp at hc

/-- The cells that are read are those. -/
theorem read_cells (P : Program) (h : HRel N ε H w) {k o n : Nat} {l : List IV} {L : Loc} (hc : H.cellsAt k o n = some l) (hL : ε k = some L) :
    (loadCells ⟨L.blk, L.sh + o, none⟩ n).run P w = .ok (dens ε l).toArray w ∧ oks ε l ∧ l.length = n ∧ (∀ v, v ∈ l → v.single = true) ∧
      ∀ j v, l[j]? = some v → w.cell? ⟨L.blk, L.sh + o + j, none⟩ = some (den ε v) := by
  obtain ⟨mate, c, hg, hle, rfl⟩ := cellsAt_some hc
  obtain ⟨_, arr, el, hw, hs, hv⟩ := h.cells k mate c L hg hL
  have hlen : ((c.drop o).take n).length = n := by simp; omega
  have hj : ∀ j v, ((c.drop o).take n)[j]? = some v → arr[L.sh + o + j]? = some (den ε v) ∧ ok ε v ∧ v.single = true := fun j v hj => by
    rw [List.getElem?_take] at hj
    split at hj
    · rw [List.getElem?_drop] at hj
      have := hv _ _ hj
      rw [show L.sh + (o + j) = L.sh + o + j from by omega] at this
      exact this
    · cases hj
  have hrun := run_loadCells_list (P := P) w ⟨L.blk, L.sh + o, none⟩ (dens ε ((c.drop o).take n)) (fun j v hjv => by
    rw [dens_map, List.getElem?_map] at hjv
    obtain ⟨x, hx, rfl⟩ := Option.map_eq_some_iff.1 hjv
    rw [addr_add, cell_at hw]
    exact (hj j x hx).1)
  rw [dens_length, hlen] at hrun
  have hmem : ∀ v, v ∈ (c.drop o).take n → ok ε v ∧ v.single = true := fun v hv' => by
    obtain ⟨j, hjv⟩ := List.getElem?_of_mem hv'
    exact (hj j v hjv).2
  exact ⟨hrun, (oks_iff ε _).2 fun v hv' => (hmem v hv').1, hlen, fun v hv' => (hmem v hv').2, fun j v hjv => by rw [cell_at hw]; exact (hj j v hjv).1⟩

/-- The same of a package-level variable. -/
theorem read_global (P : Program) (h : HRel N ε H w) {g o n : Nat} {c l : List IV} (hg : H.gl.get (bits g) = some c) (hc : sub c o n = some l) :
    (loadCells ⟨g, o, none⟩ n).run P w = .ok (dens ε l).toArray w ∧ oks ε l ∧ l.length = n ∧ (∀ v, v ∈ l → v.single = true) ∧
      ∀ j v, l[j]? = some v → w.cell? ⟨g, o + j, none⟩ = some (den ε v) := by
  obtain ⟨hle, rfl⟩ := sub_some _ _ _ _ hc
  obtain ⟨_, arr, el, fr, hw, hv⟩ := h.gl g c hg
  have hlen : ((c.drop o).take n).length = n := by simp; omega
  have hj : ∀ j v, ((c.drop o).take n)[j]? = some v → arr[o + j]? = some (den ε v) ∧ ok ε v ∧ v.single = true := fun j v hj => by
    rw [List.getElem?_take] at hj
    split at hj
    · rw [List.getElem?_drop] at hj
      exact hv _ _ hj
    · cases hj
  have hrun := run_loadCells_list (P := P) w ⟨g, o, none⟩ (dens ε ((c.drop o).take n)) (fun j v hjv => by
    rw [dens_map, List.getElem?_map] at hjv
    obtain ⟨x, hx, rfl⟩ := Option.map_eq_some_iff.1 hjv
    rw [addr_add, cell_at hw]
    exact (hj j x hx).1)
  rw [dens_length, hlen] at hrun
  have hmem : ∀ v, v ∈ (c.drop o).take n → ok ε v ∧ v.single = true := fun v hv' => by
    obtain ⟨j, hjv⟩ := List.getElem?_of_mem hv'
    exact (hj j v hjv).2
  exact ⟨hrun, (oks_iff ε _).2 fun v hv' => (hmem v hv').1, hlen, fun v hv' => (hmem v hv').2, fun j v hjv => by rw [cell_at hw]; exact (hj j v hjv).1⟩

/-- Cells are written. -/
theorem write_cells (P : Program) (h : HRel N ε H w) {k o : Nat} {l : List IV} {L : Loc} {H' : IH} (hc : H.write k o l = some H') (hL : ε k = some L) (hl : oks ε l) :
    ∃ w', (storeCells ⟨L.blk, L.sh + o, none⟩ (dens ε l)).run P w = .ok () w' ∧ Step N ε H w ε H' w' := by
  unfold IH.write at hc
  cases hg : H.get k with
  | none => simp [hg] at hc
  | some ob =>
    rw [hg] at hc
    cases ob with
    | map es => simp at hc
    | loop _ => simp at hc
    | dead => simp at hc
    | cells mate c =>
      simp only [Option.bind_some] at hc
      cases hs : l.all IV.single with
      | false => simp [hs] at hc
      | true =>
        simp only [hs, cond_true, Option.map_eq_some_iff] at hc
        obtain ⟨c', hc', rfl⟩ := hc
        have hsing : ∀ v, v ∈ l → v.single = true := by simpa using hs
        obtain ⟨hle, _⟩ := splice_some _ _ _ _ hc'
        obtain ⟨_, arr, el, hw, hn, hv⟩ := h.cells k mate c L hg hL
        by_cases hnil : l = []
        · subst hnil
          obtain ⟨_, rfl⟩ := splice_some _ _ _ _ hc'
          refine ⟨w, rfl, ?_⟩
          have := Step.row h hg hL hw arr hn none (c.take o ++ [] ++ c.drop (o + ([] : List IV).length)) (by simpa using hv)
          rwa [setRow_self w L.blk arr el (0, 0) hw] at this
        have hpos : 0 < l.length := List.length_pos_iff.2 hnil
        have hfit : L.sh + o + 0 + (dens ε l).length ≤ arr.size := by
          simp only [dens_length, Nat.add_zero]
          have hx := hv (c.length - 1) c[c.length - 1] (List.getElem?_eq_getElem (by omega))
          have := (Array.getElem?_eq_some_iff.1 hx.1).1
          omega
        have hrun := run_storeCells_at P L.blk (L.sh + o) el (dens ε l) 0 arr w hw hfit (fun v hv' => by
          rw [dens_map] at hv'
          obtain ⟨x, hx, rfl⟩ := List.mem_map.1 hv'
          have := den_single ((oks_iff ε l).1 hl x hx) (hsing x hx)
          revert this; cases den ε x <;> simp [oneC, Value.oneCell'])
        refine ⟨_, hrun, Step.row h hg hL hw _ ?_ none c' fun j v hj => ?_⟩
        · simp only [Nat.add_zero] at hfit ⊢
          rw [dens_length] at hfit
          rw [← hn]; simp only [List.size_toArray, List.length_append, List.length_take, List.length_drop, Array.length_toList, dens_length]; omega
        · rw [splice_get hc'] at hj
          simp only [Nat.add_zero, List.getElem?_toArray]
          simp only [Nat.add_zero] at hfit
          split at hj
          · rename_i h1
            have := hv j v hj
            refine ⟨?_, this.2⟩
            rw [List.append_assoc, List.getElem?_append_left (by simp; omega), List.getElem?_take, if_pos (by omega)]
            simpa using this.1
          · rename_i h1
            split at hj
            · rename_i h2
              have hm := List.mem_of_getElem? hj
              refine ⟨?_, (oks_iff ε l).1 hl v hm, hsing v hm⟩
              rw [List.append_assoc, List.getElem?_append_right (by simp; omega)]
              have e1 : (arr.toList.take (L.sh + o)).length = L.sh + o := by simp; simp at hfit; omega
              rw [e1, List.getElem?_append_left (by simp; omega), dens_map, List.getElem?_map, show L.sh + j - (L.sh + o) = j - o from by omega, hj]; rfl
            · rename_i h2
              have := hv j v hj
              refine ⟨?_, this.2⟩
              rw [List.getElem?_append_right (by simp; simp at hfit; omega), List.getElem?_drop]
              have e1 : (arr.toList.take (L.sh + o) ++ dens ε l).length = L.sh + o + l.length := by simp; simp at hfit; omega
              rw [e1, dens_length, show L.sh + o + l.length + (L.sh + j - (L.sh + o + l.length)) = L.sh + j from by omega]
              simpa using this.1
end Go.Proofs.YtpppmgfiidlfjaaGreatDoor.Sim
