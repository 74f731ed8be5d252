/-
  The walk: the call returns true from each world that the row speaks of.
-/
import Derived.Test.YtpppmgfiidlfjaaGreatDoorSvL
import Derived.WalkKit
import Derived.ProofKit
import Derived.OpenShut
import Derived.LaidMore
import Derived.Lay
import Derived.Lib.LaidU8
import Derived.MakeChecks
import Derived.Stop.Joined
set_option linter.unusedSimpArgs false
set_option linter.unusedVariables false
set_option linter.unusedSectionVars false
namespace Go.Proofs.YtpppmgfiidlfjaaGreatDoor
open Go Sim Go.ChangeShapes Go.WideShapes Go.ChangeAt Go.RowKit
set_option maxRecDepth 100000

/-- Each value of the argument. -/
theorem okAt_all (w : Nat) (h : w < 256) : okAt w = true := List.all_eq_true.1 values w (List.mem_range.2 h)

theorem spaceG : Tryz.prog.globalNamed "strings.asciiSpace" = some 0 := by kernel_rfl
theorem spaceT : (Tryz.prog.globals[0]?).map (·.type) = some 425 := by kernel_rfl
theorem spaceC : Tryz.prog.cellsOf 5 = 1 := by kernel_rfl
theorem spaceLen : ascii.length = 256 := by kernel_rfl

def spaceZ : List Int := (List.range 256).map fun i => if i == 9 || i == 10 || i == 11 || i == 12 || i == 13 || i == 32 then 1 else 0
theorem spaceD : (Rows.laid_strings_asciiSpace : DataW Unit) = .agg (spaceZ.map fun z => .lit (.int .u8 z)) := by kernel_rfl
theorem spaceA : ascii = spaceZ.map fun z => .i .u8 z := by kernel_rfl

/-- From the row's hypothesis to the ideal machine's start. -/
theorem start {W : World} (h : laidMetH Tryz.prog Rows.settleUsualRow.laid W) : Rel G0 W.heap.size (fun _ => none) (H0of G0) W := by
  rw [MakeChecks.laidMetH_plain _ _ _ (by kernel_rfl)] at h
  have hr : Lib.VarReads Tryz.prog W "strings.asciiSpace" Rows.laid_strings_asciiSpace := Lib.laidMet.reads h (by simp [Rows.settleUsualRow])
  obtain ⟨g, t, cs, fuel, p, hg, ht, hv, hd⟩ := hr
  obtain rfl := Option.some.inj (spaceG.symm.trans hg)
  obtain rfl := Option.some.inj (spaceT.symm.trans ht)
  rw [spaceD] at hd
  have hblk : ∃ el fr, W.heap[0]? = some (.cells cs el fr) := by
    simp only [World.var?, hg, Option.bind_some] at hv
    split at hv
    · rename_i c el fr hc
      cases hv
      exact ⟨el, fr, hc⟩
    · cases hv
  obtain ⟨el, fr, hblk⟩ := hblk
  have hcell : ∀ (j : Nat) (v : IV), ascii[j]? = some v → cs[j]? = some (den (fun _ => none) v) ∧ ok (fun _ => none) v ∧ v.single = true := by
    intro j v hj
    have hlt : j < 256 := by rw [← spaceLen]; exact (List.getElem?_eq_some_iff.1 hj).1
    obtain ⟨fuel', d, q, h1, h2⟩ := Lib.array_elem Tryz.underlying425 hd j hlt
    rw [spaceA, List.getElem?_map] at hj
    obtain ⟨z, hz, rfl⟩ := Option.map_eq_some_iff.1 hj
    rw [List.getElem?_map, hz] at h1
    cases h1
    rw [spaceC, Nat.mul_one] at h2
    obtain ⟨z', e1, e2, _⟩ := DataW.trod_int Tryz.underlying5 h2
    have e3 : z = z' := by
      have := e2
      simp at this
      exact this.1
    subst e3
    refine ⟨?_, trivial, rfl⟩
    have h0 : ((cs.toList.drop j).take 1)[0]? = some (.int .u8 z) := by rw [e1]; rfl
    simpa [den] using h0
  refine ⟨⟨Nat.le_refl _, fun k hk => absurd hk H0_none, fun k m c L hk _ => absurd (.inl ⟨m, c, hk⟩) H0_none, fun k o L hk ho _ => absurd (.inr ⟨o, hk, ho⟩) H0_none, fun k _ _ _ hk => absurd hk H0_none, fun g c hg' => ?_⟩, fun _ _ => rfl, rfl⟩
  have hg' : G0.get (Sim.bits g) = some c := hg'
  unfold G0 at hg'
  rw [get_set] at hg'
  split at hg'
  · rename_i e
    subst e
    cases hg'
    exact ⟨(Array.getElem?_eq_some_iff.1 hblk).1, cs, el, fr, hblk, hcell⟩
  · simp at hg'

/-- The walk: whatever the argument, the call returns true and leaves what was there. -/
theorem walk (a0 : Int) (w0 : (Go.Lit.int .u8 a0).wf = true) (w : World) (h : laidMetH Tryz.prog Rows.settleUsualRow.laid w) :
    Calls Tryz.prog 4 #[.int .u8 a0] w fun e w' => e = .returned (.bool true) ∧ Below w.heap.size w w' := by
  have hrange : 0 ≤ a0 ∧ a0 < 256 := by
    have h2 : (decide (IntKind.u8.min ≤ a0) && decide (a0 ≤ IntKind.u8.max)) = true := w0
    simp only [Bool.and_eq_true, decide_eq_true_eq] at h2
    have e1 : IntKind.u8.min = 0 := by decide
    have e2 : IntKind.u8.max = 255 := by decide
    rw [e1, e2] at h2
    omega
  obtain ⟨n, rfl⟩ : ∃ n : Nat, a0 = n := ⟨a0.toNat, by omega⟩
  have hok := okAt_all n (by omega)
  unfold okAt at hok
  split at hok
  · rename_i v H' hrun
    have hv := eqv_eq 2 _ _ hok
    subst hv
    have R := start h
    obtain ⟨_, hc⟩ := (sound.calls told2Ok 100000).calls _ _ _ w 4 [.i .u8 (.ofNat n)] _ H' R ⟨trivial, trivial⟩ hrun
    refine Calls.mono hc fun e w' he => ?_
    cases e with
    | panicked _ => exact he.elim
    | outgrown => exact he.elim
    | returned u =>
      obtain ⟨ε', hu, _, st⟩ := he
      refine ⟨by rw [hu]; rfl, st.os, st.tape, st.output, st.size, fun k hk => st.frame k hk (fun ⟨j, M, hj, _⟩ => H0_none hj)⟩
  · cases hok
end Go.Proofs.YtpppmgfiidlfjaaGreatDoor
