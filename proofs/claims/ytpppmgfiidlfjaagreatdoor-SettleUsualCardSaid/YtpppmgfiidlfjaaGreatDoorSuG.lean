/-
  Slice expressions are simulated.
-/
import Derived.Test.YtpppmgfiidlfjaaGreatDoorSuF
set_option linter.unusedSimpArgs false
set_option linter.unusedVariables false
set_option linter.unusedSectionVars false
namespace Go.Proofs.YtpppmgfiidlfjaaGreatDoor.Sim
section
variable {P : Program} {N : Nat} {ε : Env} {H : IH} {w : World} {ty : TypeId → Option TI} (hty : TysOk P ty)

theorem ibound_some {v : IV} {y j : Nat} (h : ibound v y = some j) : j ≤ y ∧ ∃ k, v = .i k (j : Int) := by
  unfold ibound at h
  split at h
  · rename_i k j'
    cases hb : Nat.ble j' y with
    | false => simp [hb] at h
    | true =>
      simp only [hb, cond_true, Option.some.injEq] at h
      subst h
      exact ⟨Nat.le_of_ble_eq_true hb, k, rfl⟩
  · cases h

theorem run_bound {v : IV} {y j : Nat} (h : ibound v y = some j) (Y : Nat) (hY : y ≤ Y) (code : BoundsCode) (w : World) : (Instr.sliceBound (den ε v) Y code).run P w = .ok j w := by
  obtain ⟨h1, k, rfl⟩ := ibound_some h
  have c0 : (0 : Int) ≤ (j : Int) := by omega
  have c1 : (j : Int) ≤ (Y : Int) := by omega
  simp [Instr.sliceBound, den, asIntOf, c0, c1]

/-- The bounds of a slice expression. -/
theorem run_bounds {lo hi mx : Option IV} (isSlice : Bool) {len cap C : Nat} (hC : cap ≤ C) {m : Option Nat} {hh l : Nat}
    (hm : mxOf mx cap = some m) (h1 : hiOf hi m cap len = some hh) (h2 : loOf lo hh = some l) :
    (Instr.sliceBounds isSlice len C (lo.map (den ε)) (hi.map (den ε)) (mx.map (den ε))).run P w = .ok (l, hh, m.getD C) w ∧ l ≤ hh ∧ (∀ M, m = some M → M ≤ cap) ∧ (hi.isSome = true → hh ≤ m.getD cap) ∧ (hi = none → hh = len ∧ m = none) := by
  unfold mxOf at hm
  unfold hiOf at h1
  unfold loOf at h2
  cases mx with
  | none =>
    simp only [Option.some.injEq] at hm
    subst hm
    cases hi with
    | none =>
      simp only [Option.some.injEq] at h1
      subst h1
      cases lo with
      | none => simp only [Option.some.injEq] at h2; subst h2; simp [Instr.sliceBounds]
      | some v => have := run_bound (P := P) (ε := ε) h2 len (Nat.le_refl _) .sliceB w; have hb := (ibound_some h2).1; simp [Instr.sliceBounds, this, hb]
    | some u =>
      simp only [Option.getD_none] at h1
      have hu := (ibound_some h1).1
      have r1 := run_bound (P := P) (ε := ε) h1 C hC (if isSlice then .sliceAcap else .sliceAlen) w
      cases lo with
      | none => simp only [Option.some.injEq] at h2; subst h2; simp [Instr.sliceBounds, r1, hu]
      | some v => have := run_bound (P := P) (ε := ε) h2 hh (Nat.le_refl _) .sliceB w; have hb := (ibound_some h2).1; simp [Instr.sliceBounds, r1, this, hb, hu]
  | some x =>
    simp only [Option.map_eq_some_iff] at hm
    obtain ⟨M, hM, rfl⟩ := hm
    have hMc := (ibound_some hM).1
    have r0 := run_bound (P := P) (ε := ε) hM C hC (if isSlice then .slice3Acap else .slice3Alen) w
    cases hi with
    | none => simp at h1
    | some u =>
      simp only [Option.getD_some] at h1
      have hu := (ibound_some h1).1
      have r1 := run_bound (P := P) (ε := ε) h1 M (Nat.le_refl _) .slice3B w
      cases lo with
      | none => simp only [Option.some.injEq] at h2; subst h2; simp [Instr.sliceBounds, r0, r1, hu, hMc]
      | some v => have := run_bound (P := P) (ε := ε) h2 hh (Nat.le_refl _) .slice3C w; have hb := (ibound_some h2).1; simp [Instr.sliceBounds, r0, r1, this, hb, hu, hMc]

/-- The capacity of a real slice. -/
def rcap (L : Loc) (o cap sz : Nat) (ex : Bool) : Nat := if ex then cap else (L.n - (L.sh + o)) / sz

theorem le_rcap {L : Loc} {o cap sz : Nat} {ex : Bool} (hs : 0 < sz) (h : L.sh + o + cap * sz ≤ L.n) : cap ≤ rcap L o cap sz ex := by
  unfold rcap
  split
  · exact Nat.le_refl _
  · rw [Nat.le_div_iff_mul_le hs]; omega

theorem sim_slice_string {t : TypeId} (ht : P.underlying t = some .string) {x v : IV} {es : Option Nat} {lo hi mx : Option IV} {s : ByteArray} (hx : x = .s s) (h : islice es x lo hi mx = some v) :
    (Instr.sliceAt t (den ε x) (lo.map (den ε)) (hi.map (den ε)) (mx.map (den ε))).run P w = .ok (den ε v) w ∧ ok ε v := by
  subst hx
  cases mx with
  | some u => simp [islice] at h
  | none =>
    simp only [islice, isliceStr, Option.bind_eq_some_iff, Option.some.injEq] at h
    obtain ⟨hh, h1, l, h2, rfl⟩ := h
    have := run_bounds (P := P) (ε := ε) (w := w) (lo := lo) (hi := hi) (mx := none) false (len := s.size) (cap := s.size) (Nat.le_refl _) (m := none) (hh := hh) (l := l) rfl h1 h2
    simp only [Option.map_none, Option.getD_none] at this
    refine ⟨?_, trivial⟩
    simp [Instr.sliceAt, Instr.slice, run_underlying ht, den, this.1]

theorem sim_slice_nil {t e : TypeId} (ht : P.underlying t = some (.slice e)) {ei : TI} (hei : TyOk P e ei) {v : IV} {es : Option Nat} {lo hi mx : Option IV} (h : islice es .s0 lo hi mx = some v) :
    (Instr.sliceAt t (den ε .s0) (lo.map (den ε)) (hi.map (den ε)) (mx.map (den ε))).run P w = .ok (den ε v) w ∧ ok ε v := by
  simp only [islice, Option.bind_eq_some_iff, Option.some.injEq] at h
  obtain ⟨m, h0, hh, h1, l, h2, rfl⟩ := h
  refine ⟨?_, trivial⟩
  obtain ⟨hb, hlh, hM, hhi, hno⟩ := run_bounds (P := P) (ε := ε) (w := w) true (len := 0) (cap := 0) (Nat.le_refl 0) h0 h1 h2
  have hm0 : m.getD 0 = 0 := by
    cases m with
    | none => rfl
    | some M => have := hM M rfl; simp; omega
  have hh0 : hh = 0 := by
    cases hi with
    | some u => have := hhi rfl; omega
    | none => exact (hno rfl).1
  have hl0 : l = 0 := by omega
  subst hh0 hl0
  rw [hm0] at hb
  simp [Instr.sliceAt, Instr.slice, run_underlying ht, den, hb, hei.run_sizeOf]

theorem sim_slice_sl {t e : TypeId} (ht : P.underlying t = some (.slice e)) {ei : TI} (hei : TyOk P e ei) {k o len cap sz : Nat} {ex : Bool} {v : IV} {lo hi mx : Option IV}
    (hx : ok ε (.sl k o len cap ex sz)) (h : islice (some ei.size) (.sl k o len cap ex sz) lo hi mx = some v) :
    (Instr.sliceAt t (den ε (.sl k o len cap ex sz)) (lo.map (den ε)) (hi.map (den ε)) (mx.map (den ε))).run P w = .ok (den ε v) w ∧ ok ε v := by
  obtain ⟨L, hL, hsz, hlc, hn⟩ := hx
  have hes' : ei.size = sz := by
    by_cases e : ei.size = sz
    · exact e
    · cases mx <;> simp [islice, e] at h
  have h : isliceSl k o len cap ex sz lo hi mx = some v := by
    cases mx <;> simpa [islice, hes'] using h
  simp only [isliceSl, Option.bind_eq_some_iff] at h
  obtain ⟨m, h0, hh, h1, l, h2, h⟩ := h
  have hC : cap ≤ rcap L o cap sz ex := le_rcap hsz hn
  obtain ⟨hb, hlh, hM, hhi, hno⟩ := run_bounds (P := P) (ε := ε) (w := w) true (len := len) hC h0 h1 h2
  have hden : den ε (.sl k o len cap ex sz) = .slice (some ⟨L.blk, L.sh + o, none⟩) len (rcap L o cap sz ex) := by simp [den, hL, rcap]
  have hhc : hh ≤ m.getD cap := by
    cases hi with
    | some u => exact hhi rfl
    | none => obtain ⟨rfl, rfl⟩ := hno rfl; simpa using hlc
  have hrun : ∀ (res : Value), (Value.slice (if m.getD (rcap L o cap sz ex) = l then some ⟨L.blk, L.sh + o, none⟩ else some ⟨L.blk, L.sh + o + l * sz, none⟩) (hh - l) (m.getD (rcap L o cap sz ex) - l)) = res →
      (Instr.sliceAt t (den ε (.sl k o len cap ex sz)) (lo.map (den ε)) (hi.map (den ε)) (mx.map (den ε))).run P w = .ok res w := by
    intro res hres
    rw [hden]
    simp only [Instr.sliceAt, Instr.slice, Sem.run_bind, run_underlying ht, Result.andThen_ok, hb, hei.run_sizeOf, hes', Option.map_some, addr_add, Sem.run_pure]
    rw [← hres]
  cases m with
  | some M =>
    simp only [Option.some.injEq] at h
    have hMc := hM M rfl
    simp only [Option.getD_some] at hrun hhc
    subst h
    have hle : l * sz + (M - l) * sz = M * sz := by rw [← Nat.add_mul]; congr 1; omega
    have hmul : M * sz ≤ cap * sz := Nat.mul_le_mul_right _ hMc
    refine ⟨hrun _ ?_, L, hL, hsz, by omega, ?_⟩
    · simp only [den, hL, if_true]
      split <;> simp [Nat.add_assoc]
    · split
      · rename_i e; subst e; simp; omega
      · omega
  | none =>
    simp only [Option.getD_none] at hrun hhc
    cases ex with
    | true =>
      simp only [if_true, Option.some.injEq] at h
      subst h
      simp only [rcap, if_true] at hrun
      have hle : l * sz + (cap - l) * sz = cap * sz := by rw [← Nat.add_mul]; congr 1; omega
      refine ⟨hrun _ ?_, L, hL, hsz, by omega, ?_⟩
      · simp only [den, hL, if_true]
        split <;> simp [Nat.add_assoc]
      · split
        · rename_i e; subst e; simp; omega
        · omega
    | false =>
      simp only [Bool.false_eq_true, if_false] at h
      have hr : rcap L o cap sz false = (L.n - (L.sh + o)) / sz := rfl
      split at h
      · rename_i hl0
        subst hl0
        simp only [Option.some.injEq] at h
        subst h
        refine ⟨hrun _ ?_, L, hL, hsz, by omega, hn⟩
        simp only [den, hL, Bool.false_eq_true, if_false, Nat.zero_mul, Nat.add_zero, ite_self, Nat.sub_zero, hr]
      · split at h
        · rename_i hl0 hlt
          simp only [Option.some.injEq] at h
          subst h
          have hle : l * sz + (cap - l) * sz = cap * sz := by rw [← Nat.add_mul]; congr 1; omega
          have hne : ¬ rcap L o cap sz false = l := by omega
          refine ⟨hrun _ ?_, L, hL, hsz, by omega, by omega⟩
          rw [if_neg hne]
          simp only [den, hL, Bool.false_eq_true, if_false, hr, Nat.add_assoc]
          congr 1
          rw [show L.n - (L.sh + (o + l * sz)) = (L.n - (L.sh + o)) - sz * l from by rw [Nat.mul_comm sz l]; omega, Nat.sub_mul_div]
        · cases h
end
end Go.Proofs.YtpppmgfiidlfjaaGreatDoor.Sim
