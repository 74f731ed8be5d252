/-
  Loads, stores, parts, fields and elements are simulated.
-/
import Derived.Test.YtpppmgfiidlfjaaGreatDoorSuD
import Derived.Laws.StructEq
set_option linter.unusedSimpArgs false
set_option linter.unusedVariables false
set_option linter.unusedSectionVars false
namespace Go.Proofs.YtpppmgfiidlfjaaGreatDoor.Sim

theorem descTy_int {d : TypeDesc} {k : IntKind} (h : descTy d = .int k) : d = .int k := by cases d <;> simp_all [descTy]
theorem descTy_bool {d : TypeDesc} (h : descTy d = .bool) : d = .bool := by cases d <;> simp_all [descTy]
theorem descTy_str {d : TypeDesc} (h : descTy d = .str) : d = .string := by cases d <;> simp_all [descTy]
theorem descTy_slice {d : TypeDesc} {e : TypeId} (h : descTy d = .slice e) : d = .slice e := by cases d <;> simp_all [descTy]
theorem descTy_arr {d : TypeDesc} {n : Nat} {e : TypeId} (h : descTy d = .arr n e) : d = .array n e := by cases d <;> simp_all [descTy]
theorem descTy_map {d : TypeDesc} {k e : TypeId} (h : descTy d = .map k e) : d = .map k e := by cases d <;> simp_all [descTy]
theorem descTy_ptr {d : TypeDesc} {e : TypeId} (h : descTy d = .ptr e) : d = .pointer e := by cases d <;> simp_all [descTy]
theorem descTy_struct {d : TypeDesc} {fs : List (TypeId × Nat)} (h : descTy d = .struct fs) : ∃ fields, d = .struct fields ∧ fs = fields.toList.map fun f => (f.type, f.offset) := by
  cases d <;> simp_all [descTy]

mutual
theorem ofVal_den (ε : Env) : ∀ (v : Value) (z : IV), ofVal v = some z → den ε z = v ∧ ok ε z
  | .bool _, _, h => by simp [ofVal] at h; subst h; exact ⟨rfl, trivial⟩
  | .int _ _, _, h => by simp [ofVal] at h; subst h; exact ⟨rfl, trivial⟩
  | .string _, _, h => by simp [ofVal] at h; subst h; exact ⟨rfl, trivial⟩
  | .pointer none, _, h => by simp [ofVal] at h; subst h; exact ⟨rfl, trivial⟩
  | .pointer (some _), _, h => by cases h
  | .slice none 0 0, _, h => by simp [ofVal] at h; subst h; exact ⟨rfl, trivial⟩
  | .slice none 0 (_ + 1), _, h => by cases h
  | .slice none (_ + 1) _, _, h => by cases h
  | .slice (some _) _ _, _, h => by cases h
  | .map none, _, h => by simp [ofVal] at h; subst h; exact ⟨rfl, trivial⟩
  | .map (some _), _, h => by simp [ofVal] at h
  | .chan _, _, h => by simp [ofVal] at h
  | .float _ _, _, h => by simp [ofVal] at h
  | .complex _ _ _, _, h => by simp [ofVal] at h
  | .iface _ _, _, h => by simp [ofVal] at h
  | .nilFunc, _, h => by simp [ofVal] at h; subst h; exact ⟨rfl, trivial⟩
  | .nilIface, _, h => by simp [ofVal] at h; subst h; exact ⟨rfl, trivial⟩
  | .func f ⟨[]⟩ ⟨[]⟩, z, h => by
    have : some (IV.fn f [] []) = some z := h
    cases this
    exact ⟨rfl, trivial, trivial⟩
  | .func f ⟨[]⟩ ⟨_ :: _⟩, z, h => by cases h
  | .func f ⟨_ :: _⟩ ⟨_⟩, z, h => by cases h
  | .agg ⟨l⟩, z, h => by
    simp only [ofVal, Option.map_eq_some_iff] at h
    obtain ⟨l', h', rfl⟩ := h
    have := ofVals_den ε l l' h'
    exact ⟨by simp only [den, this.1], this.2⟩
  | .tuple ⟨l⟩, z, h => by
    simp only [ofVal, Option.map_eq_some_iff] at h
    obtain ⟨l', h', rfl⟩ := h
    have := ofVals_den ε l l' h'
    exact ⟨by simp only [den, this.1], this.2⟩
theorem ofVals_den (ε : Env) : ∀ (l : List Value) (z : List IV), ofVals l = some z → dens ε z = l ∧ oks ε z
  | [], _, h => by simp [ofVals] at h; subst h; exact ⟨rfl, trivial⟩
  | v :: l, z, h => by
    simp only [ofVals, Option.bind_eq_some_iff, Option.map_eq_some_iff] at h
    obtain ⟨x, hx, l', hl, rfl⟩ := h
    have h1 := ofVal_den ε v x hx
    have h2 := ofVals_den ε l l' hl
    exact ⟨by simp only [dens, h1.1, h2.1], h1.2, h2.2⟩
end

/-- What is known of a type. -/
structure TyOk (P : Program) (t : TypeId) (ti : TI) : Prop where
  info : ∃ i, P.info? t = some i ∧ i.size = ti.size ∧ i.bytes = ti.bytes ∧ ∀ z, ti.zero = some z → ∃ v, i.zero = some v ∧ ofVal v = some z
  und : ∃ d, P.underlying t = some d ∧ descTy d = ti.ty ∧ (ti.eq = true → mayEq P t d = true)

def TysOk (P : Program) (ty : TypeId → Option TI) : Prop := ∀ t ti, ty t = some ti → TyOk P t ti

section
variable {P : Program} {t : TypeId} {ti : TI} {w : World}

theorem TyOk.run_sizeOf (h : TyOk P t ti) (w : World) : (sizeOf t).run P w = .ok ti.size w := by
  obtain ⟨i, hi, hs, _⟩ := h.info
  simp [sizeOf, typeInfo, hi, hs]
theorem TyOk.run_typeInfo (h : TyOk P t ti) (w : World) : ∃ i, (typeInfo t).run P w = .ok i w ∧ i.size = ti.size ∧ i.bytes = ti.bytes := by
  obtain ⟨i, hi, hs, hb, _⟩ := h.info
  exact ⟨i, by simp [typeInfo, hi], hs, hb⟩
theorem TyOk.run_zero (h : TyOk P t ti) {z : IV} (hz : ti.zero = some z) (ε : Env) (w : World) : (zeroValue t).run P w = .ok (den ε z) w ∧ ok ε z := by
  obtain ⟨i, hi, _, _, hzz⟩ := h.info
  obtain ⟨v, hv, hov⟩ := hzz z hz
  have := ofVal_den ε v z hov
  exact ⟨by simp [zeroValue, typeInfo, hi, hv, this.1], this.2⟩
theorem TyOk.run_isAgg (h : TyOk P t ti) (w : World) : (isAgg t).run P w = .ok ti.isAgg w := by
  obtain ⟨d, hd, he, _⟩ := h.und
  simp only [isAgg, Sem.run_bind, run_underlying hd, Result.andThen_ok, TI.isAgg, ← he]
  cases d <;> simp [descTy]
end

theorem asOne_some {ti : TI} {l : List IV} {v : IV} (h : asOne ti l = some v) : (ti.isAgg = true ∧ v = .agg l) ∨ (ti.isAgg = false ∧ l = [v]) := by
  unfold asOne at h
  cases ha : ti.isAgg with
  | true => simp [ha] at h; exact .inl ⟨rfl, h.symm⟩
  | false =>
    simp only [ha, cond_false] at h
    right
    refine ⟨rfl, ?_⟩
    match l, h with
    | [x], h => simp [one] at h; rw [h]
    | [], h => simp [one] at h
    | _ :: _ :: _, h => simp [one] at h

section
variable {P : Program} {N : Nat} {ε : Env} {H : IH} {w : World}

theorem sim_load {t : TypeId} {ti : TI} (ht : TyOk P t ti) (h : HRel N ε H w) {a v : IV} (ha : ok ε a) (hl : iload ti H a = some v) :
    (Instr.loadAt t (den ε a)).run P w = .ok (den ε v) w ∧ ok ε v := by
  have fin : ∀ (b o : Nat) (l : List IV), (loadCells ⟨b, o, none⟩ ti.size).run P w = .ok (dens ε l).toArray w → oks ε l →
      (∀ j u, l[j]? = some u → w.cell? ⟨b, o + j, none⟩ = some (den ε u)) → asOne ti l = some v →
      (loadVar t ⟨b, o, none⟩).run P w = .ok (den ε v) w ∧ ok ε v := by
    intro b o l hrun hok hcell h1
    rcases asOne_some h1 with ⟨hagg, rfl⟩ | ⟨hagg, rfl⟩
    · refine ⟨?_, hok⟩
      simp [loadVar, ht.run_isAgg, hagg, ht.run_sizeOf, hrun, den]
    · refine ⟨?_, hok.1⟩
      have := hcell 0 v (by simp)
      simp only [Nat.add_zero] at this
      simp [loadVar, ht.run_isAgg, hagg, this]
  cases a with
  | p k o =>
    simp only [iload, Option.bind_eq_some_iff] at hl
    obtain ⟨l, hc, h1⟩ := hl
    obtain ⟨L, hL⟩ := ha
    obtain ⟨hrun, hok, _, _, hcell⟩ := read_cells P h hc hL
    simpa [Instr.loadAt, Instr.sureAddr, den, hL] using fin _ _ l hrun hok hcell h1
  | g b o =>
    simp only [iload, Option.bind_eq_some_iff] at hl
    obtain ⟨c, hg, l, hc, h1⟩ := hl
    obtain ⟨hrun, hok, _, _, hcell⟩ := read_global P h hg hc
    simpa [Instr.loadAt, Instr.sureAddr, den] using fin _ _ l hrun hok hcell h1
  | _ => simp [iload] at hl

theorem sim_store {t : TypeId} {ti : TI} (ht : TyOk P t ti) (h : HRel N ε H w) {a v : IV} {H' : IH} (ha : ok ε a) (hv : ok ε v) (hl : istore ti H a v = some H') :
    ∃ w', (Instr.storeAt t (den ε a) (den ε v)).run P w = .ok () w' ∧ Step N ε H w ε H' w' := by
  cases a with
  | p k o =>
    simp only [istore] at hl
    cases hb : Nat.beq v.cells.length ti.size with
    | false => simp [hb] at hl
    | true =>
      simp only [hb, cond_true] at hl
      have hs : v.cells.length = ti.size := Nat.eq_of_beq_eq_true hb
      obtain ⟨L, hL⟩ := ha
      obtain ⟨w', hrun, hst⟩ := write_cells P h hl hL (ok_cells hv)
      refine ⟨w', ?_, hst⟩
      simp only [Instr.storeAt, Instr.sureAddr, den, hL, storeVar, Sem.run_bind, Sem.run_pure, Result.andThen_ok, den_cells v hv, ht.run_sizeOf]
      simp [hs, hrun]
  | _ => simp [istore] at hl

theorem sim_part {t : TypeId} {ti : TI} (ht : TyOk P t ti) {cs : List IV} {off : Nat} {v : IV} (hok : oks ε cs) (hp : ipart ti cs off = some v) :
    (part t (dens ε cs).toArray off).run P w = .ok (den ε v) w ∧ ok ε v := by
  simp only [ipart, Option.bind_eq_some_iff] at hp
  obtain ⟨l, hs, h1⟩ := hp
  obtain ⟨hle, rfl⟩ := sub_some _ _ _ _ hs
  have hall : oks ε ((cs.drop off).take ti.size) := (oks_iff ε _).2 fun v hv => (oks_iff ε cs).1 hok v (List.mem_of_mem_drop (List.mem_of_mem_take hv))
  rcases asOne_some h1 with ⟨hagg, rfl⟩ | ⟨hagg, hl⟩
  · refine ⟨?_, hall⟩
    simp only [part, Sem.run_bind, ht.run_isAgg, Result.andThen_ok, hagg, if_true, ht.run_sizeOf, Sem.run_pure, den, dens_map]
    congr 2
    apply Array.ext'
    simp [List.map_take, List.map_drop]
  · rw [hl] at hall
    refine ⟨?_, hall.1⟩
    have hget : cs[off]? = some v := by
      have : ((cs.drop off).take ti.size)[0]? = some v := by rw [hl]; rfl
      rw [List.getElem?_take] at this
      split at this
      · rw [List.getElem?_drop] at this; simpa using this
      · cases this
    simp only [part, Sem.run_bind, ht.run_isAgg, Result.andThen_ok, hagg, Bool.false_eq_true, if_false, List.getElem?_toArray, dens_map, List.getElem?_map, hget, Option.map_some, Sem.run_pure]

variable {ty : TypeId → Option TI} (hty : TysOk P ty)
include hty

theorem sim_field {t : TypeId} {x v : IV} {f : Nat} (hx : ok ε x) (hf : ifield ty t x f = some v) : (Instr.field t (den ε x) f).run P w = .ok (den ε v) w ∧ ok ε v := by
  simp only [ifield, Option.bind_eq_some_iff] at hf
  obtain ⟨ti, ht, hf⟩ := hf
  split at hf
  · rename_i fs cs hd
    simp only [Option.bind_eq_some_iff] at hf
    obtain ⟨⟨ft, off⟩, hfs, fi, hfi, hp⟩ := hf
    obtain ⟨d, hu, he, _⟩ := (hty t ti ht).und
    rw [hd] at he
    obtain ⟨fields, rfl, rfl⟩ := descTy_struct he
    rw [List.getElem?_map] at hfs
    obtain ⟨fd, hfd, hfe⟩ := Option.map_eq_some_iff.1 hfs
    simp only [Prod.mk.injEq] at hfe
    obtain ⟨rfl, rfl⟩ := hfe
    have hfd' : fields[f]? = some fd := by rw [← Array.getElem?_toList]; exact hfd
    have := sim_part (w := w) (hty _ _ hfi) hx hp
    refine ⟨?_, this.2⟩
    simp only [Instr.field, Sem.run_bind, run_underlying hu, Result.andThen_ok, hfd', den, asAgg, Sem.run_pure, this.1]
  · cases hf

theorem sim_fieldAddr {t : TypeId} {x v : IV} {f : Nat} (hx : ok ε x) (hf : ifieldAddr ty t x f = some v) : (Instr.fieldAt t (den ε x) f).run P w = .ok (den ε v) w ∧ ok ε v := by
  simp only [ifieldAddr, Option.bind_eq_some_iff] at hf
  obtain ⟨ti, ht, hf⟩ := hf
  split at hf
  · rename_i fs k o hd
    simp only [Option.bind_eq_some_iff] at hf
    obtain ⟨⟨ft, off⟩, hfs, fi, hfi, hp⟩ := hf
    cases hb : Nat.beq fi.size 0 with
    | true => simp [hb] at hp
    | false =>
      simp only [hb, cond_false, Option.some.injEq] at hp
      subst hp
      have hne : fi.size ≠ 0 := Nat.ne_of_beq_eq_false hb
      obtain ⟨d, hu, he, _⟩ := (hty t ti ht).und
      rw [hd] at he
      obtain ⟨fields, rfl, rfl⟩ := descTy_struct he
      rw [List.getElem?_map] at hfs
      obtain ⟨fd, hfd, hfe⟩ := Option.map_eq_some_iff.1 hfs
      simp only [Prod.mk.injEq] at hfe
      obtain ⟨rfl, rfl⟩ := hfe
      have hfd' : fields[f]? = some fd := by rw [← Array.getElem?_toList]; exact hfd
      obtain ⟨L, hL⟩ := hx
      refine ⟨?_, L, hL⟩
      simp only [Instr.fieldAt, Sem.run_bind, run_underlying hu, Result.andThen_ok, hfd', den, hL, Instr.sureAddr, Sem.run_pure, fieldPlace, (hty _ _ hfi).run_sizeOf, hne, if_false, addr_add, Nat.add_assoc]
  · cases hf

theorem sim_indexAddr {t : TypeId} {x i v : IV} (hx : ok ε x) (hf : iindexAddr ty t x i = some v) : (Instr.indexAt t (den ε x) (den ε i)).run P w = .ok (den ε v) w ∧ ok ε v := by
  simp only [iindexAddr, Option.bind_eq_some_iff] at hf
  obtain ⟨ti, ht, hf⟩ := hf
  obtain ⟨d, hu, he, _⟩ := (hty t ti ht).und
  split at hf
  · rename_i n e k o kd j hd
    simp only [Option.bind_eq_some_iff] at hf
    obtain ⟨ei, hei, hp⟩ := hf
    rw [hd] at he
    obtain rfl := descTy_arr he
    cases hb : Nat.blt j n with
    | false => simp [hb] at hp
    | true =>
      simp only [hb, cond_true, Option.some.injEq] at hp
      subst hp
      have hj : j < n := blt_iff.1 hb
      obtain ⟨L, hL⟩ := hx
      refine ⟨?_, L, hL⟩
      have c0 : (0 : Int) ≤ (j : Int) := by omega
      have c1 : (j : Int) < (n : Int) := by omega
      simp only [Instr.indexAt, den, hL, asIntOf, Sem.run_bind, Sem.run_pure, Result.andThen_ok, run_underlying hu, Instr.sureAddr, c0, c1, and_self, if_true, (hty _ _ hei).run_sizeOf, addr_add, Int.ofNat_eq_natCast, Int.toNat_natCast, Nat.add_assoc]
  · rename_i n e b o kd j hd
    simp only [Option.bind_eq_some_iff] at hf
    obtain ⟨ei, hei, hp⟩ := hf
    rw [hd] at he
    obtain rfl := descTy_arr he
    cases hb : Nat.blt j n with
    | false => simp [hb] at hp
    | true =>
      simp only [hb, cond_true, Option.some.injEq] at hp
      subst hp
      have hj : j < n := blt_iff.1 hb
      refine ⟨?_, trivial⟩
      have c0 : (0 : Int) ≤ (j : Int) := by omega
      have c1 : (j : Int) < (n : Int) := by omega
      simp only [Instr.indexAt, den, asIntOf, Sem.run_bind, Sem.run_pure, Result.andThen_ok, run_underlying hu, Instr.sureAddr, c0, c1, and_self, if_true, (hty _ _ hei).run_sizeOf, addr_add, Int.ofNat_eq_natCast, Int.toNat_natCast]
  · rename_i e k o len cap ex sz kd j hd
    simp only [Option.bind_eq_some_iff] at hf
    obtain ⟨ei, hei, hp⟩ := hf
    rw [hd] at he
    obtain rfl := descTy_slice he
    cases hb : Nat.blt j len && Nat.beq ei.size sz with
    | false => simp [hb] at hp
    | true =>
      simp only [hb, cond_true, Option.some.injEq] at hp
      subst hp
      simp only [Bool.and_eq_true] at hb
      have hj : j < len := blt_iff.1 hb.1
      have hsz : ei.size = sz := Nat.eq_of_beq_eq_true hb.2
      obtain ⟨L, hL, r⟩ := hx
      refine ⟨?_, L, hL⟩
      have c0 : (0 : Int) ≤ (j : Int) := by omega
      have c1 : (j : Int) < (len : Int) := by omega
      simp only [Instr.indexAt, den, hL, asIntOf, Sem.run_bind, Sem.run_pure, Result.andThen_ok, run_underlying hu, c0, c1, and_self, if_true, (hty _ _ hei).run_sizeOf, addr_add, Int.ofNat_eq_natCast, Int.toNat_natCast, hsz, Nat.add_assoc]
  · cases hf

theorem sim_index {t : TypeId} {x i v : IV} (hx : ok ε x) (hf : iindex ty t x i = some v) : (Instr.index t (den ε x) (den ε i)).run P w = .ok (den ε v) w ∧ ok ε v := by
  simp only [iindex, Option.bind_eq_some_iff] at hf
  obtain ⟨ti, ht, hf⟩ := hf
  obtain ⟨d, hu, he, _⟩ := (hty t ti ht).und
  split at hf
  · rename_i n e cs kd j hd
    simp only [Option.bind_eq_some_iff] at hf
    obtain ⟨ei, hei, hp⟩ := hf
    rw [hd] at he
    obtain rfl := descTy_arr he
    cases hb : Nat.blt j n with
    | false => simp [hb] at hp
    | true =>
      simp only [hb, cond_true] at hp
      have hj : j < n := blt_iff.1 hb
      have := sim_part (w := w) (hty _ _ hei) hx hp
      refine ⟨?_, this.2⟩
      have c0 : (0 : Int) ≤ (j : Int) := by omega
      have c1 : (j : Int) < (n : Int) := by omega
      simp only [Instr.index, den, asIntOf, Sem.run_bind, Sem.run_pure, Result.andThen_ok, run_underlying hu, c0, c1, and_self, if_true, (hty _ _ hei).run_sizeOf, Int.ofNat_eq_natCast, Int.toNat_natCast, this.1]
  · rename_i s kd j hd
    rw [hd] at he
    obtain rfl := descTy_str he
    obtain ⟨c, hc, rfl⟩ := Option.map_eq_some_iff.1 hf
    refine ⟨?_, trivial⟩
    have hg : s[j]? = some c := by
      have : s.data[j]? = some c := by rw [← Array.getElem?_toList]; exact hc
      obtain ⟨h1, h2⟩ := Array.getElem?_eq_some_iff.1 this
      have h1' : j < s.size := h1
      rw [getElem?_pos s j h1']
      exact congrArg some h2
    have c0 : (0 : Int) ≤ (j : Int) := by omega
    simp only [Instr.index, den, asIntOf, Sem.run_bind, Sem.run_pure, Result.andThen_ok, run_underlying hu, c0, if_true, Int.ofNat_eq_natCast, Int.toNat_natCast, hg]
  · cases hf

end
end Go.Proofs.YtpppmgfiidlfjaaGreatDoor.Sim
