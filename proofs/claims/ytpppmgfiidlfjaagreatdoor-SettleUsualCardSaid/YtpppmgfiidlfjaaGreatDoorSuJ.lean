/-
  append, make of slices and clear are simulated.
-/
import Derived.Test.YtpppmgfiidlfjaaGreatDoorSuI
set_option linter.unusedSimpArgs false
set_option linter.unusedVariables false
set_option linter.unusedSectionVars false
namespace Go.Proofs.YtpppmgfiidlfjaaGreatDoor.Sim
section
variable {P : Program} {N : Nat} {ε : Env} {H : IH} {w : World} {ty : TypeId → Option TI} (hty : TysOk P ty)

/-- What the source of an append gives. -/
structure Src (P : Program) (ε : Env) (ei : TI) (e u : TypeId) (x : Value) (zeros : Bool) (n : Nat) (c : List IV) (w : World) : Prop where
  und : bif zeros then ∃ k, P.underlying u = some (.int k) else ∃ e', P.underlying u = some (.slice e')
  okc : oks ε c
  len : c.length = n * ei.size
  lenOf : zeros = false → (Builtin.lenOf x).run P w = .ok n w
  first : zeros = false → (Builtin.firstCells ei.size n x).run P w = .ok (dens ε c).toArray w
  int : zeros = true → ∃ k, x = .int k (n : Int) ∧ n * (ei.bytes + 1) ≤ 1048576 ∧ ∃ z, ei.zero = some z ∧ c = reps n z.cells ∧ z.cells.length = ei.size

theorem Src.draw {ei : TI} {e u : TypeId} {x : Value} {zeros : Bool} {n : Nat} {c : List IV} (h : Src P ε ei e u x zeros n c w) (h1 : zeros = false → (Builtin.lenOf x).run P w.drew = .ok n w.drew)
   (h2 : zeros = false → (Builtin.firstCells ei.size n x).run P w.drew = .ok (dens ε c).toArray w.drew) : Src P ε ei e u x zeros n c w.drew :=
  ⟨h.und, h.okc, h.len, h1, h2, h.int⟩

include hty in
theorem isrc_src {e u : TypeId} {ei ui : TI} (hei : TyOk P e ei) (hu : ty u = some ui) {zeros : Bool} (ha : appendAs ui.ty = some zeros) {z : IV} (hz : ei.zero = some z) (hzl : z.cells.length = ei.size)
    {x : IV} (hx : ok ε x) {n : Nat} {c : List IV} (h : isrc H ei zeros x = some (n, c)) (hr : HRel N ε H w) : Src P ε ei e u (den ε x) zeros n c w := by
  obtain ⟨d, hd, hde, _⟩ := (hty u ui hu).und
  have hund : bif zeros then ∃ k, P.underlying u = some (.int k) else ∃ e', P.underlying u = some (.slice e') := by
    unfold appendAs at ha
    split at ha
    · rename_i e' he; rw [he] at hde; obtain rfl := descTy_slice hde; cases ha; exact ⟨_, hd⟩
    · rename_i k he; rw [he] at hde; obtain rfl := descTy_int hde; cases ha; exact ⟨_, hd⟩
    · cases ha
  have hzr := hei.run_zero hz ε w
  unfold isrc at h
  split at h
  · rename_i k n'
    cases hb : Nat.ble (n' * (ei.bytes + 1)) 1048576 with
    | false => simp [hb] at h
    | true =>
      simp only [hb, cond_true, hz, Option.map_some, Option.some.injEq, Prod.mk.injEq] at h
      obtain ⟨rfl, rfl⟩ := h
      refine ⟨hund, (oks_iff ε _).2 fun v hv => (oks_iff ε _).1 (ok_cells hzr.2) v (reps_mem hv), by rw [reps_length, hzl], by simp, by simp, fun _ => ⟨k, rfl, Nat.le_of_ble_eq_true hb, z, hz, rfl, hzl⟩⟩
  · simp only [Option.some.injEq, Prod.mk.injEq] at h
    obtain ⟨rfl, rfl⟩ := h
    exact ⟨hund, trivial, by simp, fun _ => by simp [Builtin.lenOf, den], fun _ => by simp [Builtin.firstCells, den, dens], by simp⟩
  · rename_i k o len cap ex sz
    cases hb : Nat.beq sz ei.size with
    | false => simp [hb] at h
    | true =>
      simp only [hb, cond_true, Option.map_eq_some_iff, Prod.mk.injEq] at h
      obtain ⟨l, hl, rfl, rfl⟩ := h
      obtain ⟨L, hL, _⟩ := hx
      obtain ⟨hrun, hok, hlen, _, _⟩ := read_cells P hr hl hL
      exact ⟨hund, hok, hlen, fun _ => by simp [Builtin.lenOf, den, hL], fun _ => by simp only [Builtin.firstCells, den, hL]; exact hrun, by simp⟩
  · cases h

theorem wrap_small {n : Nat} (h : n ≤ 1048576) : IntKind.i64.wrap (n : Int) = (n : Int) := by
  have := wrapI_eq .i64 (n : Int)
  rw [← this]
  have : Nat.blt n (lim .i64) = true := blt_iff.2 (by simp [lim]; omega)
  show (bif Nat.blt n (lim .i64) then (Int.ofNat n) else _) = _
  rw [this]; rfl

theorem src_small {a b : Nat} (h : a * (b + 1) ≤ 1048576) : a ≤ 1048576 ∧ a * b ≤ 1048576 := by
  have : a * (b + 1) = a * b + a := by rw [Nat.mul_add, Nat.mul_one]
  omega

/-- An append that finds room. -/
theorem run_append_in {t u e r : TypeId} {ei : TI} (ht : P.underlying t = some (.slice e)) (hei : TyOk P e ei) {z : IV} (hz : ei.zero = some z) {x : Value} {zeros : Bool} {n : Nat} {c : List IV} (hsz : 0 < ei.size)
    (hs : Src P ε ei e u x zeros n c w) (base : Option Addr) (sLen sCap : Nat) (hfit : sLen + n ≤ sCap) {w' : World}
    (hst : ∀ a, base = some a → (storeCells (a.add (sLen * ei.size)) (dens ε c)).run P w = .ok () w') (hno : base = none → w' = w) :
    (Builtin.append_ #[t, u] r #[.slice base sLen sCap, x]).run P w = .ok (.slice base (sLen + n) sCap) w' := by
  obtain ⟨i, hi, his, hib, _⟩ := hei.info
  have hzr := hei.run_zero hz ε w
  cases zeros with
  | false =>
    obtain ⟨e', hd⟩ := hs.und
    have h1 := hs.lenOf rfl
    have h2 := hs.first rfl
    simp only [Builtin.append_, List.getElem?_toArray, List.getElem?_cons_zero, List.getElem?_cons_succ, Sem.run_bind, run_underlying ht, Result.andThen_ok, hei.run_sizeOf, run_underlying hd, Sem.run_pure]
    cases base with
    | none =>
      obtain rfl := hno rfl
      simp only [Bool.false_eq_true, if_false, Sem.run_bind, h1, Result.andThen_ok, hfit, if_true, Bool.not_false, h2, Sem.run_pure]
    | some a =>
      have h3 := hst a rfl
      simp only [Bool.false_eq_true, if_false, Sem.run_bind, h1, Result.andThen_ok, hfit, if_true, Bool.not_false, h2, Sem.run_pure, h3]
  | true =>
    obtain ⟨k, rfl, hle, z', hz', rfl, hzl⟩ := hs.int rfl
    rw [hz] at hz'; cases hz'
    obtain ⟨kk, hd⟩ := hs.und
    have hsm := src_small hle
    have hneg : ¬ ((n : Int) < 0) := by omega
    have h48 : ¬ ((n : Int) * (ei.bytes : Int) > 2 ^ 48) := by
      have : ((n : Int) * (ei.bytes : Int)) = ((n * ei.bytes : Nat) : Int) := by simp
      rw [this]; omega
    have hti : (typeInfo e).run P w = .ok i w := by simp [typeInfo, hi]
    have hnew : (if n * ei.size = 0 then (pure #[] : Sem (Array Value)) else do pure (Builtin.zeroCells (← zeroValue e).cells n)).run P w = .ok (dens ε (reps n z.cells)).toArray w := by
      by_cases h0 : n * ei.size = 0
      · have : n = 0 := by rcases Nat.mul_eq_zero.1 h0 with h | h <;> omega
        subst this
        simp [reps, dens]
      · rw [if_neg h0]
        simp only [Sem.run_bind, hzr.1, Result.andThen_ok, Sem.run_pure, den_cells z hzr.2]
        rw [zeroCells_row z.cells n (by omega)]
    simp only [Builtin.append_, List.getElem?_toArray, List.getElem?_cons_zero, List.getElem?_cons_succ, Sem.run_bind, run_underlying ht, Result.andThen_ok, hei.run_sizeOf, run_underlying hd, Sem.run_pure, if_true,
      asInt, asIntOf, wrap_small hsm.1, hneg, if_false, hti, hib, h48, Int.toNat_natCast, hfit]
    simp only [Bool.not_true, Bool.false_eq_true, if_false]
    rw [hnew]
    cases base with
    | none =>
      obtain rfl := hno rfl
      simp
    | some a =>
      have h3 := hst a rfl
      simp [h3]

/-- An append that finds none. -/
theorem run_append_out {t u e r : TypeId} {ei : TI} (ht : P.underlying t = some (.slice e)) (hei : TyOk P e ei) {z : IV} (hz : ei.zero = some z) {x : Value} {zeros : Bool} {n : Nat} {c : List IV} (hsz : 0 < ei.size)
    (hs : Src P ε ei e u x zeros n c w) (hs' : Src P ε ei e u x zeros n c w.drew) (base : Option Addr) (sLen sCap : Nat) (hfit : sCap < sLen + n) (hle : (sLen + n) * (ei.bytes + 1) ≤ 1048576) {old : List IV}
    (hold : (Builtin.firstCells ei.size sLen (.slice base sLen sCap)).run P w.drew = .ok (dens ε old).toArray w.drew) :
    ∃ newCap, sLen + n ≤ newCap ∧ (Builtin.append_ #[t, u] r #[.slice base sLen sCap, x]).run P w =
      .ok (.slice (some ⟨w.heap.size, 0, none⟩) (sLen + n) newCap) (grow w.drew (.cells ((dens ε old).toArray ++ (dens ε c).toArray ++ Builtin.zeroCells (den ε z).cells (newCap - (sLen + n))) e)) := by
  obtain ⟨i, hi, his, hib, _⟩ := hei.info
  have hzr := hei.run_zero hz ε w
  have hzr' := hei.run_zero hz ε w.drew
  have hsm := src_small hle
  have hti : ∀ w, (typeInfo e).run P w = .ok i w := fun w => by simp [typeInfo, hi]
  have hnfit : ¬ (sLen + n ≤ sCap) := by omega
  have h63 : ¬ (((sLen + n : Nat) : Int) > IntKind.i64.max) := by
    show ¬ (((sLen + n : Nat) : Int) > 9223372036854775807)
    omega
  have h48 : ¬ (Builtin.nextslicecap (sLen + n) sCap * ei.bytes > 2 ^ 48) := by
    have := growslice_fits (bytes := ei.bytes) hfit (by omega)
    omega
  refine ⟨(Question.appendCap (sLen + n) sCap e).cut (w.tape w.drawn (.appendCap (sLen + n) sCap e)), by simp [Question.cut], ?_⟩
  have hch : (choose (.appendCap (sLen + n) sCap e)).run P w = .ok ((Question.appendCap (sLen + n) sCap e).cut (w.tape w.drawn (.appendCap (sLen + n) sCap e))) w.drew := by
    rw [run_choose]; rfl
  generalize (Question.appendCap (sLen + n) sCap e).cut (w.tape w.drawn (.appendCap (sLen + n) sCap e)) = newCap at hch ⊢
  cases zeros with
  | false =>
    obtain ⟨e', hd⟩ := hs.und
    have h1 := hs.lenOf rfl
    have h2 := hs'.first rfl
    simp only [Builtin.append_, List.getElem?_toArray, List.getElem?_cons_zero, List.getElem?_cons_succ, Sem.run_bind, run_underlying ht, Result.andThen_ok, hei.run_sizeOf, run_underlying hd, Sem.run_pure]
    simp only [Bool.false_eq_true, if_false, Sem.run_bind, h1, Result.andThen_ok, hnfit, hti, hib, h63, false_and, h48, hch, run_askRoom, hold, Bool.not_false, if_true, h2, hzr'.1, Sem.run_pure]
    simp [newRow, grow]
  | true =>
    obtain ⟨k, rfl, hle', z', hz', rfl, hzl⟩ := hs.int rfl
    rw [hz] at hz'; cases hz'
    obtain ⟨kk, hd⟩ := hs.und
    have hsm' := src_small hle'
    have hneg : ¬ ((n : Int) < 0) := by omega
    have h48' : ¬ ((n : Int) * (ei.bytes : Int) > 2 ^ 48) := by
      have : ((n : Int) * (ei.bytes : Int)) = ((n * ei.bytes : Nat) : Int) := by simp
      rw [this]; omega
    have hnew : (if n * ei.size = 0 then (pure #[] : Sem (Array Value)) else do pure (Builtin.zeroCells (← zeroValue e).cells n)).run P w.drew = .ok (dens ε (reps n z.cells)).toArray w.drew := by
      by_cases h0 : n * ei.size = 0
      · have : n = 0 := by rcases Nat.mul_eq_zero.1 h0 with h | h <;> omega
        subst this
        simp [reps, dens]
      · rw [if_neg h0]
        simp only [Sem.run_bind, hzr'.1, Result.andThen_ok, Sem.run_pure, den_cells z hzr.2]
        rw [zeroCells_row z.cells n (by omega)]
    simp only [Builtin.append_, List.getElem?_toArray, List.getElem?_cons_zero, List.getElem?_cons_succ, Sem.run_bind, run_underlying ht, Result.andThen_ok, hei.run_sizeOf, run_underlying hd, Sem.run_pure, if_true,
      asInt, asIntOf, wrap_small hsm'.1, hneg, if_false, hti, hib, h48', Int.toNat_natCast, hnfit, h63, false_and, h48, hch, run_askRoom, hold]
    simp only [Bool.not_true, Bool.false_eq_true, if_false]
    rw [hnew]
    simp only [Result.andThen_ok, hzr'.1, Sem.run_bind, Sem.run_pure]
    simp [newRow, grow]

/-- Rows that lie before other cells. -/
theorem row_first {ε : Env} {l : List IV} (hok : oks ε l) (hs : l.all IV.single = true) (rest : Array Value) (j : Nat) (v : IV) (hj : l[j]? = some v) :
    ((dens ε l).toArray ++ rest)[j]? = some (den ε v) ∧ ok ε v ∧ v.single = true := by
  have h := cells_row hok hs j v hj
  refine ⟨?_, h.2⟩
  obtain ⟨h1, h2⟩ := Array.getElem?_eq_some_iff.1 h.1
  rw [Array.getElem?_append_left h1]
  exact h.1

theorem oks_append {ε : Env} {a b : List IV} (ha : oks ε a) (hb : oks ε b) : oks ε (a ++ b) := (oks_iff ε _).2 fun v hv => by
  rcases List.mem_append.1 hv with h | h
  · exact (oks_iff ε a).1 ha v h
  · exact (oks_iff ε b).1 hb v h

/-- A grown row: the new block. -/
theorem grown_row {e : TypeId} {ei : TI} (hr : HRel N ε H w) (hf : ε H.nx = none) (mate : Option Nat) {row : List IV} (hok : oks ε row) (hs : row.all IV.single = true) {need newCap : Nat} (hn : need ≤ newCap) (hsz : 0 < ei.size)
    (hl : row.length = need * ei.size) {z : IV} (hz : ok ε z) (hzl : z.cells.length = ei.size) :
    ∃ ε', den ε' (.sl H.nx 0 need need false ei.size) = .slice (some ⟨w.heap.size, 0, none⟩) need newCap ∧ ok ε' (.sl H.nx 0 need need false ei.size) ∧
      Step N ε H w ε' (H.new (.cells mate row)) (grow w (.cells ((dens ε row).toArray ++ Builtin.zeroCells (den ε z).cells (newCap - need)) e)) := by
  have hsize : ((dens ε row).toArray ++ Builtin.zeroCells (den ε z).cells (newCap - need)).size = newCap * ei.size := by
    rw [den_cells z hz, zeroCells_row z.cells _ (by omega)]
    simp only [Array.size_append, List.size_toArray, dens_length, reps_length, hl, hzl]
    rw [← Nat.add_mul]; congr 1; omega
  have hst := Step.alloc hr hf mate row ((dens ε row).toArray ++ Builtin.zeroCells (den ε z).cells (newCap - need)) e (row_first hok hs _)
  rw [hsize] at hst
  refine ⟨_, ?_, ⟨_, by simp [upd]; rfl, hsz, Nat.le_refl _, ?_⟩, hst⟩
  · simp only [den, upd, if_true, Bool.false_eq_true, if_false, Nat.add_zero, Nat.sub_zero]
    rw [Nat.mul_div_cancel _ hsz]
  · simp only [Nat.zero_add]; exact Nat.mul_le_mul_right _ hn

include hty in
theorem sim_append {t u r : TypeId} {zeros : Bool} {ui : TI} (hu : ty u = some ui) (ha : appendAs ui.ty = some zeros) {s x v : IV} {H' : IH} (hr : HRel N ε H w) (hf : ε H.nx = none) (hso : ok ε s) (hx : ok ε x)
    (h : iappend ty t zeros H s x = some (v, H')) :
    ∃ ε' w', (Builtin.append_ #[t, u] r #[den ε s, den ε x]).run P w = .ok (den ε' v) w' ∧ ok ε' v ∧ Step N ε H w ε' H' w' := by
  simp only [iappend, Option.bind_eq_some_iff] at h
  obtain ⟨ti, ht, h⟩ := h
  obtain ⟨d, hut, he, _⟩ := (hty t ti ht).und
  split at h
  case h_2 => cases h
  rename_i e hd
  rw [hd] at he
  obtain rfl := descTy_slice he
  simp only [Option.bind_eq_some_iff] at h
  obtain ⟨ei, hei, z, hz, h⟩ := h
  have hei := hty _ _ hei
  cases hb : Nat.beq z.cells.length ei.size && Nat.blt 0 ei.size with
  | false => simp [hb] at h
  | true =>
  simp only [hb, cond_true, Option.bind_eq_some_iff] at h
  simp only [Bool.and_eq_true] at hb
  have hzl := Nat.eq_of_beq_eq_true hb.1
  have hsz := blt_iff.1 hb.2
  have hzr := hei.run_zero hz ε w
  obtain ⟨⟨n, c⟩, hsrc, h⟩ := h
  have hsr := isrc_src hty hei hu ha hz hzl hx hsrc hr
  have hd := Step.draw hr (w.drawn + 1)
  have hrd : HRel N ε H w.drew := hd.rel
  have hsr' : Src P ε ei e u (den ε x) zeros n c w.drew := isrc_src hty hei hu ha hz hzl hx hsrc hrd
  simp only [appendTo] at h
  cases hall : c.all IV.single with
  | false => simp [hall] at h
  | true =>
  simp only [hall, cond_true] at h
  have hsl := hsr.len
  cases s with
  | s0 =>
    simp only [append0] at h
    cases hn0 : Nat.beq n 0 with
    | true =>
      simp only [hn0, cond_true, Option.some.injEq, Prod.mk.injEq] at h
      obtain ⟨rfl, rfl⟩ := h
      have hn0 := Nat.eq_of_beq_eq_true hn0
      subst hn0
      exact ⟨ε, w, run_append_in hut hei hz hsz hsr none 0 0 (by omega) (by simp) (fun _ => rfl), trivial, Step.refl hr⟩
    | false =>
      have hn0 := Nat.ne_of_beq_eq_false hn0
      rw [show Nat.beq n 0 = false from by cases hh : Nat.beq n 0 with | false => rfl | true => exact absurd (Nat.eq_of_beq_eq_true hh) hn0] at h
      simp only [cond_false] at h
      cases hle : Nat.ble (n * (ei.bytes + 1)) 1048576 with
      | false => simp [hle] at h
      | true =>
        simp only [hle, cond_true, appendNew, Option.some.injEq, Prod.mk.injEq] at h
        obtain ⟨rfl, rfl⟩ := h
        have hle := Nat.le_of_ble_eq_true hle
        obtain ⟨newCap, hnc, hrun⟩ := run_append_out (r := r) hut hei hz hsz hsr hsr' none 0 0 (by omega) (by simpa using hle) (old := []) (by simp [Builtin.firstCells, dens])
        obtain ⟨ε', h1, h2, h3⟩ := grown_row (e := e) (ei := ei) (need := n) (newCap := newCap) hrd hf none hsr.okc hall (by omega) hsz hsl hzr.2 hzl
        refine ⟨ε', _, ?_, h2, hd.trans h3⟩
        rw [h1]
        simpa [dens, den] using hrun
  | sl k o len cap ex sz =>
    cases hbz : Nat.beq sz ei.size with
    | false => simp [hbz] at h
    | true =>
    obtain rfl := Nat.eq_of_beq_eq_true hbz
    simp only [hbz, cond_true, appendSl] at h
    obtain ⟨L, hL, hsz', hlc, hn⟩ := hso
    have hden : den ε (.sl k o len cap ex ei.size) = .slice (some ⟨L.blk, L.sh + o, none⟩) len (rcap L o cap ei.size ex) := by simp [den, hL, rcap]
    have hC : cap ≤ rcap L o cap ei.size ex := le_rcap hsz hn
    rw [hden]
    cases hfit : Nat.ble (len + n) cap with
    | true =>
      have hfit' := Nat.le_of_ble_eq_true hfit
      simp only [hfit, cond_true, Option.map_eq_some_iff, Prod.mk.injEq] at h
      obtain ⟨H1, hw, rfl, rfl⟩ := h
      obtain ⟨w', hst, hstep⟩ := write_cells P hr hw hL hsr.okc
      refine ⟨ε, w', ?_, ⟨L, hL, hsz, hfit', hn⟩, hstep⟩
      have := run_append_in (r := r) hut hei hz hsz hsr (some ⟨L.blk, L.sh + o, none⟩) len (rcap L o cap ei.size ex) (by omega) (w' := w') (by
        intro a ha
        cases ha
        rw [addr_add, Nat.add_assoc]
        exact hst) (by simp)
      rw [this]
      simp [den, hL, rcap]
    | false =>
      simp only [hfit, cond_false] at h
      have hnfit : ¬ len + n ≤ cap := fun hh => by rw [Nat.ble_eq_true_of_le hh] at hfit; cases hfit
      cases hle : Nat.ble ((len + n) * (ei.bytes + 1)) 1048576 with
      | false => simp [hle] at h
      | true =>
      have hle' := Nat.le_of_ble_eq_true hle
      simp only [hle, cond_true, Option.bind_eq_some_iff] at h
      obtain ⟨ob, hg, h⟩ := h
      cases ob with
      | map es => simp at h
      | dead => simp at h
      | loop _ => simp at h
      | cells mate cc =>
      simp only [Option.bind_eq_some_iff] at h
      obtain ⟨old, hold, h⟩ := h
      have hcellsAt : H.cellsAt k o (len * ei.size) = some old := by simp [IH.cellsAt, hg, hold]
      obtain ⟨hrun0, hok0, hlen0, hs0, hcell0⟩ := read_cells P hr hcellsAt hL
      obtain ⟨hrun0', _⟩ := read_cells P hrd hcellsAt hL
      have hrow : (old ++ c).all IV.single = true := by
        rw [List.all_append, hall, Bool.and_true]
        simpa using hs0
      have hrowok := oks_append hok0 hsr.okc
      have hrowl : (old ++ c).length = (len + n) * ei.size := by rw [List.length_append, hlen0, hsl, Nat.add_mul]
      have grownCase : rcap L o cap ei.size ex < len + n → ∃ newCap, len + n ≤ newCap ∧ (Builtin.append_ #[t, u] r #[.slice (some ⟨L.blk, L.sh + o, none⟩) len (rcap L o cap ei.size ex), den ε x]).run P w =
          .ok (.slice (some ⟨w.heap.size, 0, none⟩) (len + n) newCap) (grow w.drew (.cells ((dens ε (old ++ c)).toArray ++ Builtin.zeroCells (den ε z).cells (newCap - (len + n))) e)) := fun hlt => by
        obtain ⟨newCap, hnc, hrun⟩ := run_append_out (r := r) hut hei hz hsz hsr hsr' (some ⟨L.blk, L.sh + o, none⟩) len (rcap L o cap ei.size ex) hlt hle' (old := old) hrun0'
        refine ⟨newCap, hnc, ?_⟩
        rw [hrun]
        simp [dens_map]
      cases ex with
      | true =>
        simp only [if_true, appendNew, Option.some.injEq, Prod.mk.injEq, cond_true] at h
        obtain ⟨rfl, rfl⟩ := h
        obtain ⟨newCap, hnc, hrun⟩ := grownCase (by simp [rcap]; omega)
        obtain ⟨ε', h1, h2, h3⟩ := grown_row (e := e) (ei := ei) (need := len + n) (newCap := newCap) hrd hf none hrowok hrow hnc hsz hrowl hzr.2 hzl
        exact ⟨ε', _, by rw [h1]; exact hrun, h2, hd.trans h3⟩
      | false =>
        simp only [cond_false] at h
        cases hend : Nat.beq (o + len * ei.size) cc.length with
        | false => simp [hend] at h
        | true =>
        have hend' := Nat.eq_of_beq_eq_true hend
        simp only [hend, cond_true, appendMay, Option.some.injEq, Prod.mk.injEq] at h
        obtain ⟨rfl, rfl⟩ := h
        obtain ⟨hN, arr, el, hw, hna, hv⟩ := hr.cells k mate cc L hg hL
        by_cases hroom : len + n ≤ rcap L o cap ei.size false
        · -- in place
          have hroomc : L.sh + o + (len + n) * ei.size ≤ L.n := by
            have : (len + n) * ei.size ≤ L.n - (L.sh + o) := by
              have := (Nat.le_div_iff_mul_le hsz).1 (by simpa [rcap] using hroom)
              exact this
            have h0 : L.sh + o ≤ L.n := by omega
            omega
          have hsplit : (len + n) * ei.size = len * ei.size + n * ei.size := Nat.add_mul _ _ _
          have hst := run_storeCells_at P L.blk (L.sh + (o + len * ei.size)) el (dens ε c) 0 arr w hw (by simp only [dens_length, hsl]; omega) (fun v hv' => by
            rw [dens_map] at hv'
            obtain ⟨x, hx, rfl⟩ := List.mem_map.1 hv'
            have := den_single ((oks_iff ε c).1 hsr.okc x hx) (singles_iff.1 hall x hx)
            revert this; cases den ε x <;> simp [oneC, Value.oneCell'])
          simp only [Nat.add_zero] at hst
          have hrun := run_append_in (r := r) hut hei hz hsz hsr (some ⟨L.blk, L.sh + o, none⟩) len (rcap L o cap ei.size false) hroom (w' := w.setRow L.blk (arr.toList.take (L.sh + (o + len * ei.size)) ++ dens ε c ++ arr.toList.drop (L.sh + (o + len * ei.size) + (dens ε c).length)).toArray) (by
            intro a ha
            cases ha
            rw [addr_add, Nat.add_assoc]
            exact hst) (by simp)
          have harr' : (arr.toList.take (L.sh + (o + len * ei.size)) ++ dens ε c ++ arr.toList.drop (L.sh + (o + len * ei.size) + (dens ε c).length)).toArray.size = L.n := by
            simp only [List.size_toArray, List.length_append, List.length_take, List.length_drop, Array.length_toList, dens_length, hsl]
            omega
          have hget : ∀ j, (arr.toList.take (L.sh + (o + len * ei.size)) ++ dens ε c ++ arr.toList.drop (L.sh + (o + len * ei.size) + (dens ε c).length)).toArray[j]? =
              if j < L.sh + (o + len * ei.size) then arr[j]? else if j < L.sh + (o + len * ei.size) + c.length then (dens ε c)[j - (L.sh + (o + len * ei.size))]? else arr[j]? := fun j => by
            rw [List.getElem?_toArray]
            by_cases h1 : j < L.sh + (o + len * ei.size)
            · rw [if_pos h1, List.append_assoc, List.getElem?_append_left (by simp; omega), List.getElem?_take, if_pos h1]; simp
            · rw [if_neg h1]
              by_cases h2 : j < L.sh + (o + len * ei.size) + c.length
              · rw [if_pos h2, List.append_assoc, List.getElem?_append_right (by simp; omega)]
                have : (arr.toList.take (L.sh + (o + len * ei.size))).length = L.sh + (o + len * ei.size) := by simp; omega
                rw [this, List.getElem?_append_left (by simp; omega)]
              · rw [if_neg h2, List.getElem?_append_right (by simp; omega), List.getElem?_drop]
                have : (arr.toList.take (L.sh + (o + len * ei.size)) ++ dens ε c).length = L.sh + (o + len * ei.size) + c.length := by simp; omega
                rw [this]
                simp only [dens_length]
                rw [show L.sh + (o + len * ei.size) + c.length + (j - (L.sh + (o + len * ei.size) + c.length)) = j from by omega]
                simp
          have hstep1 := Step.row hr hg hL hw _ harr' (some H.nx) cc (fun j v hj => by
            have := hv j v hj
            have hlt := (List.getElem?_eq_some_iff.1 hj).1
            rw [hget, if_pos (by omega)]
            exact this)
          have hk1 : ((H.kill mate).put k (.cells (some H.nx) cc)).get k = some (.cells (some ((H.kill mate).put k (.cells (some H.nx) cc)).nx) cc) := by simp
          have hlt : L.blk < w.heap.size := (Array.getElem?_eq_some_iff.1 hw).1
          have hstep2 := Step.alias (el := el) hstep1.rel hk1 hL (by simpa using hf) (setRow_heap w L.blk arr _ el _ hw) harr' o (old ++ c) (fun j v hj => by
            have hjl := (List.getElem?_eq_some_iff.1 hj).1
            rw [hrowl] at hjl
            rw [hget]
            by_cases h1 : j < len * ei.size
            · rw [List.getElem?_append_left (by omega)] at hj
              rw [if_pos (by omega)]
              have hc0 := hcell0 j v hj
              rw [cell_at hw] at hc0
              exact ⟨hc0, (oks_iff ε old).1 hok0 v (List.mem_of_getElem? hj), hs0 v (List.mem_of_getElem? hj)⟩
            · rw [List.getElem?_append_right (by omega), hlen0] at hj
              rw [if_neg (by omega), if_pos (by omega)]
              refine ⟨?_, (oks_iff ε c).1 hsr.okc v (List.mem_of_getElem? hj), singles_iff.1 hall v (List.mem_of_getElem? hj)⟩
              rw [dens_get, show L.sh + o + j - (L.sh + (o + len * ei.size)) = j - len * ei.size from by omega, hj]
              rfl)
          refine ⟨_, _, ?_, ⟨_, by simp [upd]; rfl, hsz, Nat.le_refl _, ?_⟩, hstep1.trans hstep2⟩
          · rw [hrun]
            simp [den, upd, rcap]
          · simp only [Nat.add_zero]; exact hroomc
        · -- a new row
          obtain ⟨newCap, hnc, hrun⟩ := grownCase (by omega)
          have hstep1 := Step.row hrd hg hL (show w.drew.heap[L.blk]? = _ from hw) arr hna (some H.nx) cc (fun j v hj => hv j v hj)
          rw [setRow_self w.drew L.blk arr el (0, 0) (show w.drew.heap[L.blk]? = _ from hw)] at hstep1
          obtain ⟨ε', h1, h2, h3⟩ := grown_row (e := e) (ei := ei) (need := len + n) (newCap := newCap) hstep1.rel (by simpa using hf) (some k) hrowok hrow hnc hsz hrowl hzr.2 hzl
          refine ⟨ε', _, ?_, by simpa using h2, (hd.trans hstep1).trans h3⟩
          simp only [IH.put_nx, IH.kill_nx] at h1
          rw [h1]; exact hrun
  | _ => simp at h

include hty in
theorem sim_makeSlice {t : TypeId} {l c v : IV} {H' : IH} (hr : HRel N ε H w) (hf : ε H.nx = none) (h : imakeSlice ty t H l c = some (v, H')) :
    ∃ ε' w', (Instr.makeSlice t (den ε l) (den ε c)).run P w = .ok (den ε' v) w' ∧ ok ε' v ∧ Step N ε H w ε' H' w' := by
  simp only [imakeSlice, Option.bind_eq_some_iff] at h
  obtain ⟨ti, ht, h⟩ := h
  obtain ⟨d, hut, he, _⟩ := (hty t ti ht).und
  split at h
  case h_2 => cases h
  rename_i e kl l kc c hd
  rw [hd] at he
  obtain rfl := descTy_slice he
  simp only [Option.bind_eq_some_iff] at h
  obtain ⟨ei, hei, z, hz, h⟩ := h
  have hei := hty _ _ hei
  cases hb : Nat.ble l c && Nat.ble (c * (ei.bytes + 1)) 1048576 && Nat.beq z.cells.length ei.size && Nat.blt 0 ei.size && z.cells.all IV.single with
  | false => simp [hb] at h
  | true =>
  simp only [hb, cond_true, Option.some.injEq, Prod.mk.injEq] at h
  obtain ⟨rfl, rfl⟩ := h
  simp only [Bool.and_eq_true] at hb
  obtain ⟨⟨⟨⟨h1, h2⟩, h3⟩, h4⟩, h5⟩ := hb
  have h1 := Nat.le_of_ble_eq_true h1
  have h2 := Nat.le_of_ble_eq_true h2
  have h3 := Nat.eq_of_beq_eq_true h3
  have h4 := blt_iff.1 h4
  have hsm := src_small h2
  have hzr := hei.run_zero hz ε w
  obtain ⟨i, hi, his, hib, _⟩ := hei.info
  have hti : (typeInfo e).run P w = .ok i w := by simp [typeInfo, hi]
  have hokr : oks ε (reps c z.cells) := (oks_iff ε _).2 fun v hv => (oks_iff ε _).1 (ok_cells hzr.2) v (reps_mem hv)
  have hsr : (reps c z.cells).all IV.single = true := singles_iff.2 fun v hv => singles_iff.1 h5 v (reps_mem hv)
  obtain ⟨w', hrow, hst⟩ := sim_newRow (P := P) hr hf hokr hsr e
  refine ⟨_, w', ?_, ⟨_, by simp [upd]; rfl, h4, h1, ?_⟩, hst⟩
  · have hzrow : ((Array.range (c * ei.size)).map fun i => ((if c * ei.size = 0 then #[] else (dens ε z.cells).toArray))[i % (if c * ei.size = 0 then #[] else (dens ε z.cells).toArray).size]!) = (dens ε (reps c z.cells)).toArray := by
      by_cases h0 : c * ei.size = 0
      · have : c = 0 := by rcases Nat.mul_eq_zero.1 h0 with h | h <;> omega
        subst this
        simp [reps, dens]
      · simp only [h0, if_false]
        exact range_row z.cells c (c * ei.size) (by omega) (by rw [h3])
    have hl : (asInt (den ε (.i kl (.ofNat l)))).run P w = .ok (l : Int) w := by simp [den, asInt, asIntOf]
    have hc : (asInt (den ε (.i kc (.ofNat c)))).run P w = .ok (c : Int) w := by simp [den, asInt, asIntOf]
    have nb : ∀ x : Nat, x ≤ c → (decide ((x : Int) < 0) || decide ((ei.bytes : Int) * (x : Int) > 2 ^ 48)) = false := fun x hx => by
      have e1 : ((ei.bytes : Int) * (x : Int)) = ((x * ei.bytes : Nat) : Int) := by simp [Int.mul_comm]
      have e2 : x * ei.bytes ≤ c * ei.bytes := Nat.mul_le_mul_right _ hx
      have e3 : ¬ ((x * ei.bytes : Nat) : Int) > 2 ^ 48 := by omega
      rw [e1]
      simp only [e3, decide_false, Bool.or_false, decide_eq_false_iff_not]
      omega
    have nb2 : (decide ((l : Int) < 0) || decide ((l : Int) > (c : Int))) = false := by
      simp only [Bool.or_eq_false_iff, decide_eq_false_iff_not]; omega
    have fin : den (upd ε H.nx ⟨w.heap.size, 0, (reps c z.cells).length⟩) (IV.sl H.nx 0 l c true ei.size) = .slice (some ⟨w.heap.size, 0, none⟩) l c := by
      simp [den, upd]
    rw [fin]
    simp only [Instr.makeSlice, Sem.run_bind, run_underlying hut, Result.andThen_ok, hl, hc, hti, hib, wrap_small hsm.1, wrap_small (Nat.le_trans h1 hsm.1)]
    have c1 : ((decide ((c : Int) < 0) || decide ((ei.bytes : Int) * (c : Int) > 2 ^ 48)) || decide ((l : Int) < 0) || decide ((l : Int) > (c : Int))) = false := by
      rw [Bool.or_assoc, nb c (Nat.le_refl _), nb2]; rfl
    simp only [c1, Bool.false_eq_true, if_false, Sem.run_bind, Sem.run_pure, run_askRoom, Result.andThen_ok, Int.toNat_natCast, hei.run_sizeOf]
    by_cases h0 : c * ei.size = 0
    · rw [if_pos h0]
      simp only [h0, if_true] at hzrow
      simp only [Sem.run_bind, Sem.run_pure, Result.andThen_ok, h0, hzrow, hrow]
    · rw [if_neg h0]
      simp only [h0, if_false] at hzrow
      simp only [Sem.run_bind, Sem.run_pure, Result.andThen_ok, hzr.1, den_cells z hzr.2, hzrow, hrow]
  · simp [h3]

include hty in
theorem sim_clear {t r : TypeId} {x : IV} {H' : IH} (hr : HRel N ε H w) (hx : ok ε x) (h : iclear ty t H x = some H') :
    ∃ w', (Builtin.clear_ #[t] r #[den ε x]).run P w = .ok (.tuple #[]) w' ∧ Step N ε H w ε H' w' := by
  simp only [iclear, Option.bind_eq_some_iff] at h
  obtain ⟨ti, ht, h⟩ := h
  obtain ⟨d, hut, he, _⟩ := (hty t ti ht).und
  split at h
  · cases h
    exact ⟨w, by simp [Builtin.clear_, run_underlying hut, den], Step.refl hr⟩
  · rename_i e k o len cap ex sz hd
    rw [hd] at he
    obtain rfl := descTy_slice he
    simp only [Option.bind_eq_some_iff] at h
    obtain ⟨ei, hei, z, hz, h⟩ := h
    have hei := hty _ _ hei
    have hzr := hei.run_zero hz ε w
    obtain ⟨L, hL, hsz, _, _⟩ := hx
    cases hb : Nat.beq len 0 with
    | true =>
      obtain rfl := Nat.eq_of_beq_eq_true hb
      simp only [hb, cond_true, Option.some.injEq] at h
      subst h
      exact ⟨w, by simp [Builtin.clear_, run_underlying hut, den, hL], Step.refl hr⟩
    | false =>
      have hne := Nat.ne_of_beq_eq_false hb
      simp only [hb, cond_false] at h
      cases hb2 : Nat.beq sz ei.size && Nat.beq z.cells.length sz with
      | false => simp [hb2] at h
      | true =>
        simp only [hb2, cond_true] at h
        simp only [Bool.and_eq_true] at hb2
        have h1 := Nat.eq_of_beq_eq_true hb2.2
        have hokr : oks ε (reps len z.cells) := (oks_iff ε _).2 fun v hv => (oks_iff ε _).1 (ok_cells hzr.2) v (reps_mem hv)
        obtain ⟨w', hst, hstep⟩ := write_cells P hr h hL hokr
        refine ⟨w', ?_, hstep⟩
        obtain ⟨len, rfl⟩ : ∃ m, len = m + 1 := ⟨len - 1, by omega⟩
        simp only [Builtin.clear_, List.getElem?_toArray, List.getElem?_cons_zero, Sem.run_bind, run_underlying hut, Result.andThen_ok, den, hL, hzr.1, den_cells z hzr.2, zeroCells_row z.cells _ (by omega : 0 < z.cells.length), hst, Sem.run_pure]
  · cases h
end
end Go.Proofs.YtpppmgfiidlfjaaGreatDoor.Sim
