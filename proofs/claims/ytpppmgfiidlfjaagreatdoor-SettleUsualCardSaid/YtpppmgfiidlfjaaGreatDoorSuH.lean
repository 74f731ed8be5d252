/-
  len, cap, max, min, map lookups and map updates are simulated.
-/
import Derived.Test.YtpppmgfiidlfjaaGreatDoorSuG
import Derived.Laws.Tables
set_option linter.unusedSimpArgs false
set_option linter.unusedVariables false
set_option linter.unusedSectionVars false
namespace Go.Proofs.YtpppmgfiidlfjaaGreatDoor.Sim
section
variable {P : Program} {N : Nat} {ε : Env} {H : IH} {w : World} {ty : TypeId → Option TI} (hty : TysOk P ty)

include hty in
theorem sim_len {t u : TypeId} {x v : IV} (h : HRel N ε H w) (hx : ok ε x) (hl : ilen ty t H x = some v) : (Builtin.len_ #[t] u #[den ε x]).run P w = .ok (den ε v) w ∧ ok ε v := by
  simp only [ilen, Option.bind_eq_some_iff] at hl
  obtain ⟨ti, ht, hl⟩ := hl
  obtain ⟨d, hu, he, _⟩ := (hty t ti ht).und
  split at hl
  · rename_i hd; rw [hd] at he; obtain rfl := descTy_str he
    cases hl; exact ⟨by simp [Builtin.len_, run_underlying hu, den, goInt], trivial⟩
  · rename_i hd; rw [hd] at he; obtain rfl := descTy_arr he
    cases hl; exact ⟨by simp [Builtin.len_, run_underlying hu, den, goInt], trivial⟩
  · rename_i hd; rw [hd] at he; obtain rfl := descTy_slice he
    cases hl; exact ⟨by simp [Builtin.len_, run_underlying hu, den, goInt], trivial⟩
  · rename_i hd; rw [hd] at he; obtain rfl := descTy_slice he
    obtain ⟨L, hL, _⟩ := hx
    cases hl; exact ⟨by simp [Builtin.len_, run_underlying hu, den, hL, goInt], trivial⟩
  · rename_i hd; rw [hd] at he; obtain rfl := descTy_map he
    cases hl; exact ⟨by simp [Builtin.len_, run_underlying hu, den, goInt], trivial⟩
  · rename_i r hd; rw [hd] at he; obtain rfl := descTy_map he
    obtain ⟨L, hL⟩ := hx
    simp only [Option.bind_eq_some_iff] at hl
    obtain ⟨ob, hg, hl⟩ := hl
    cases ob with
    | cells _ _ => simp at hl
    | dead => simp at hl
    | loop _ => simp at hl
    | map es =>
      simp only [Option.some.injEq] at hl
      subst hl
      obtain ⟨_, arr, cl, hw, hr, _⟩ := h.maps r es L hg hL
      have hlen : arr.size = es.length := by
        have := congrArg List.length hr
        simpa using this
      have hgo : (getObj L.blk).run P w = .ok (.map arr cl) w := by simp [getObj, Sem.run, hw]
      exact ⟨by simp [Builtin.len_, run_underlying hu, den, hL, goInt, hgo, hlen], trivial⟩
  · cases hl

include hty in
theorem sim_cap {t u : TypeId} {x v : IV} (hx : ok ε x) (hl : icap ty t x = some v) : (Builtin.cap_ #[t] u #[den ε x]).run P w = .ok (den ε v) w ∧ ok ε v := by
  simp only [icap, Option.bind_eq_some_iff] at hl
  obtain ⟨ti, ht, hl⟩ := hl
  obtain ⟨d, hu, he, _⟩ := (hty t ti ht).und
  split at hl
  · rename_i hd; rw [hd] at he; obtain rfl := descTy_slice he
    cases hl; exact ⟨by simp [Builtin.cap_, run_underlying hu, den, goInt], trivial⟩
  · rename_i hd; rw [hd] at he; obtain rfl := descTy_slice he
    obtain ⟨L, hL, _⟩ := hx
    cases hl; exact ⟨by simp [Builtin.cap_, run_underlying hu, den, hL, goInt], trivial⟩
  · cases hl

theorem sim_max : ∀ (l : List IV) (x v : IV), imax (fun a b => bif ltI a b then b else a) x l = some v →
    ((dens ε l).foldlM Builtin.max2 (den ε x)).run P w = .ok (den ε v) w ∧ (l ≠ [] → ok ε v)
  | [], x, v, h => by simp [imax] at h; subst h; simp [dens]
  | y :: l, x, v, h => by
    cases x <;> cases y <;> simp only [imax, reduceCtorEq] at h
    rename_i k a k' b
    have := sim_max l _ v h
    have e : (bif ltI a b then b else a) = (if b > a then b else a) := by rw [ltI_eq]; by_cases c : a < b <;> simp [c]
    have e2 : ok ε v := by
      cases l with
      | nil => simp only [imax, Option.some.injEq] at h; subst h; trivial
      | cons z l => exact this.2 (by simp)
    refine ⟨?_, fun _ => e2⟩
    simp only [dens, List.foldlM_cons, Sem.run_bind, den, Builtin.max2, Sem.run_pure, Result.andThen_ok]
    rw [← e]
    exact this.1

theorem sim_min : ∀ (l : List IV) (x v : IV), imax (fun a b => bif ltI b a then b else a) x l = some v →
    ((dens ε l).foldlM Builtin.min2 (den ε x)).run P w = .ok (den ε v) w ∧ (l ≠ [] → ok ε v)
  | [], x, v, h => by simp [imax] at h; subst h; simp [dens]
  | y :: l, x, v, h => by
    cases x <;> cases y <;> simp only [imax, reduceCtorEq] at h
    rename_i k a k' b
    have := sim_min l _ v h
    have e : (bif ltI b a then b else a) = (if b < a then b else a) := by rw [ltI_eq]; by_cases c : b < a <;> simp [c]
    have e2 : ok ε v := by
      cases l with
      | nil => simp only [imax, Option.some.injEq] at h; subst h; trivial
      | cons z l => exact this.2 (by simp)
    refine ⟨?_, fun _ => e2⟩
    simp only [dens, List.foldlM_cons, Sem.run_bind, den, Builtin.min2, Sem.run_pure, Result.andThen_ok]
    rw [← e]
    exact this.1

/- Maps. -/
theorem keyEq_some {ε : Env} {kt : Ty} {d : TypeDesc} (hd : descTy d = kt) {key k : IV} {r : Bool} (hp : plainKey kt key = true) (h : keyEq key k = some r) : Instr.sameNow d (den ε key) (den ε k) = some r := by
  unfold plainKey at hp
  split at hp
  · obtain rfl := descTy_int hd
    cases k <;> simp only [keyEq, reduceCtorEq] at h
    split at h
    · rename_i e; subst e; cases h; simp [Instr.sameNow, den, eqI_eq]
    · cases h
  · obtain rfl := descTy_str hd
    cases k <;> simp only [keyEq, reduceCtorEq] at h
    cases h; simp [Instr.sameNow, den]
  · obtain rfl := descTy_bool hd
    cases k <;> simp only [keyEq, reduceCtorEq] at h
    cases h; simp [Instr.sameNow, den]
  · cases hp

theorem find_some {ε : Env} {kt : Ty} {d : TypeDesc} (hd : descTy d = kt) {key : IV} (hp : plainKey kt key = true) : ∀ (es : List (IV × IV)) (arr : List MapEntry) (i : Nat) (r : Option (Nat × IV)),
    arr.map (fun e => (e.key, e.val)) = es.map (fun x => (den ε x.1, den ε x.2)) → ifind key es i = some r → Instr.findNow d (den ε key) arr i = some (r.map fun x => (x.1, den ε x.2))
  | [], arr, i, r, he, h => by
    cases arr with
    | nil => simp [ifind] at h; subst h; simp [Instr.findNow]
    | cons => simp at he
  | (k, v) :: es, arr, i, r, he, h => by
    cases arr with
    | nil => simp at he
    | cons e arr =>
      simp only [List.map_cons, List.cons.injEq, Prod.mk.injEq] at he
      simp only [ifind, Option.bind_eq_some_iff] at h
      obtain ⟨q, hq, h⟩ := h
      have := keyEq_some (ε := ε) hd hp hq
      simp only [Instr.findNow, he.1.1, this]
      cases q with
      | true => simp at h; subst h; simp [he.1.2]
      | false => simpa using find_some hd hp es arr (i + 1) r he.2 (by simpa using h)

theorem ifind_spec {key : IV} : ∀ (es : List (IV × IV)) (i j : Nat) (v : IV), ifind key es i = some (some (j, v)) → ∃ n k, j = i + n ∧ es[n]? = some (k, v) ∧ keyEq key k = some true
  | [], i, j, v, h => by simp [ifind] at h
  | (k, u) :: es, i, j, v, h => by
    simp only [ifind, Option.bind_eq_some_iff] at h
    obtain ⟨q, hq, h⟩ := h
    cases q with
    | true => simp at h; obtain ⟨rfl, rfl⟩ := h; exact ⟨0, k, rfl, rfl, hq⟩
    | false =>
      obtain ⟨n, k', rfl, h1, h2⟩ := ifind_spec es (i + 1) j v (by simpa using h)
      exact ⟨n + 1, k', by omega, by simpa using h1, h2⟩

theorem bytes_eq {a b : ByteArray} (h : (a == b) = true) : a = b := by
  rw [beq_toListBytes, ByteArray.toList_eq, ByteArray.toList_eq] at h
  obtain ⟨⟨x⟩⟩ := a
  obtain ⟨⟨y⟩⟩ := b
  have : x = y := by simpa using h
  rw [this]

theorem bytes_self (a : ByteArray) : (a == a) = true := by rw [beq_toListBytes]; simp

theorem keyEq_true {ε : Env} {kt : Ty} {key k : IV} (hp : plainKey kt key = true) (h : keyEq key k = some true) : den ε key = den ε k ∧ Instr.sameBits 10000 (den ε k) (den ε key) = true := by
  unfold plainKey at hp
  split at hp
  · cases k <;> simp only [keyEq, reduceCtorEq] at h
    split at h
    · rename_i e; subst e
      simp only [Option.some.injEq, eqI_eq, beq_iff_eq] at h; subst h; exact ⟨rfl, by simp [den, Instr.sameBits]⟩
    · cases h
  · cases k <;> simp only [keyEq, reduceCtorEq] at h
    simp only [Option.some.injEq] at h
    have := bytes_eq h
    subst this; exact ⟨rfl, by simp [den, Instr.sameBits, bytes_self]⟩
  · cases k <;> simp only [keyEq, reduceCtorEq] at h
    simp only [Option.some.injEq, beq_iff_eq] at h; subst h; exact ⟨rfl, by simp [den, Instr.sameBits]⟩
  · cases hp

theorem run_checkKeyN {kt : Ty} {d : TypeDesc} {t : TypeId} (hu : P.underlying t = some d) (hd : descTy d = kt) {key : IV} (hp : plainKey kt key = true) (b : Bool) (n : Nat) :
    (Instr.checkKey b (n + 1) t (den ε key)).run P w = .ok () w := by
  unfold plainKey at hp
  split at hp
  · obtain rfl := descTy_int hd; simp [Instr.checkKey, run_underlying hu, den]
  · obtain rfl := descTy_str hd; simp [Instr.checkKey, run_underlying hu, den]
  · obtain rfl := descTy_bool hd; simp [Instr.checkKey, run_underlying hu, den]
  · cases hp

theorem run_checkKey {kt : Ty} {d : TypeDesc} {t : TypeId} (hu : P.underlying t = some d) (hd : descTy d = kt) {key : IV} (hp : plainKey kt key = true) (b : Bool) :
    (Instr.checkKey b 10000 t (den ε key)).run P w = .ok () w := run_checkKeyN hu hd hp b 9999

theorem run_findKey {d : TypeDesc} {t : TypeId} (hu : P.underlying t = some d) {v : Value} {arr : List MapEntry} {r : Option (Nat × Value)} (h : Instr.findNow d v arr 0 = some r) :
    (Instr.findKey t v arr).run P w = .ok r w := by
  simp [Instr.findKey, run_underlying hu, h]

include hty in
theorem sim_lookup {t : TypeId} {m key v : IV} {okb : Bool} (h : HRel N ε H w) (hm : ok ε m) (hk : ok ε key) (hl : ilookup ty t H m key okb = some v) :
    (Instr.lookup t (den ε m) (den ε key) okb).run P w = .ok (den ε v) w ∧ ok ε v := by
  simp only [ilookup, Option.bind_eq_some_iff] at hl
  obtain ⟨ti, ht, hl⟩ := hl
  obtain ⟨d, hu, he, _⟩ := (hty t ti ht).und
  split at hl
  · rename_i kt et hd
    rw [hd] at he; obtain rfl := descTy_map he
    simp only [Option.bind_eq_some_iff] at hl
    obtain ⟨ki, hki, ei, hei, hl⟩ := hl
    obtain ⟨kd, hku, hke, _⟩ := (hty _ _ hki).und
    split at hl
    · rename_i hp
      simp only [Option.bind_eq_some_iff] at hl
      obtain ⟨es, hes, r, hr, hl⟩ := hl
      have tail : ∀ arr : List MapEntry, arr.map (fun e => (e.key, e.val)) = es.map (fun x => (den ε x.1, den ε x.2)) → (∀ x, x ∈ es → ok ε x.1 ∧ ok ε x.2) →
          (Instr.findKey kt (den ε key) arr).run P w = .ok (r.map fun x => (x.1, den ε x.2)) w ∧ ok ε v ∧
          (∀ u, r = some u → v = (bif okb then .tup [u.2, .b true] else u.2)) ∧ (r = none → ∃ z, (zeroValue et).run P w = .ok (den ε z) w ∧ v = (bif okb then .tup [z, .b false] else z)) := by
        intro arr harr hok
        have hf := find_some (ε := ε) hke hp es arr 0 r harr hr
        refine ⟨run_findKey (P := P) (w := w) hku hf, ?_⟩
        cases r with
        | none =>
          simp only [Option.map_eq_some_iff] at hl
          obtain ⟨z, hz, rfl⟩ := hl
          have hzr := (hty _ _ hei).run_zero hz ε w
          refine ⟨?_, (fun u hu => by cases hu), fun _ => ⟨z, hzr.1, rfl⟩⟩
          cases okb <;> simp [ok, oks, hzr.2]
        | some x =>
          obtain ⟨j, u⟩ := x
          obtain ⟨n, k, _, hn, _⟩ := ifind_spec es 0 j u hr
          have hu' : ok ε u := (hok _ (List.mem_of_getElem? hn)).2
          simp only [Option.some.injEq] at hl
          subst hl
          refine ⟨?_, (fun u hu => by cases hu; rfl), (fun h => by cases h)⟩
          cases okb <;> simp [ok, oks, hu']
      cases m with
      | m0 =>
        simp only [Option.some.injEq] at hes; subst hes
        obtain ⟨h1, h2, h3, h4⟩ := tail [] rfl (fun x hx => by cases hx)
        refine ⟨?_, h2⟩
        simp only [Instr.lookup, Sem.run_bind, run_underlying hu, den, Result.andThen_ok, Sem.run_pure, run_checkKey (w := w) hku hke hp, h1]
        cases r with
        | none => obtain ⟨z, hz, rfl⟩ := h4 rfl; cases okb <;> simp [hz, den, dens]
        | some u => rw [h3 u rfl]; cases okb <;> simp [den, dens]
      | m rb =>
        simp only [Option.bind_eq_some_iff] at hes
        obtain ⟨ob, hg, hes⟩ := hes
        cases ob with
        | cells _ _ => simp at hes
        | dead => simp at hes
        | loop _ => simp at hes
        | map es' =>
          simp only [Option.some.injEq] at hes; subst hes
          obtain ⟨L, hL⟩ := hm
          obtain ⟨_, arr, cl, hw, hrr, hok⟩ := h.maps _ es' L hg hL
          have hgo : (getObj L.blk).run P w = .ok (.map arr cl) w := by simp [getObj, Sem.run, hw]
          obtain ⟨h1, h2, h3, h4⟩ := tail arr.toList hrr hok
          refine ⟨?_, h2⟩
          simp only [Instr.lookup, Sem.run_bind, run_underlying hu, den, hL, hgo, Result.andThen_ok, Sem.run_pure, run_checkKey (w := w) hku hke hp, h1]
          cases r with
          | none => obtain ⟨z, hz, rfl⟩ := h4 rfl; cases okb <;> simp [hz, den, dens]
          | some u => rw [h3 u rfl]; cases okb <;> simp [den, dens]
      | _ => simp at hes
    · cases hl
  · cases hl

theorem setAt_eq : ∀ (l : List (IV × IV)) (i : Nat) (x : IV × IV), setAt l i x = l.set i x
  | [], _, _ => rfl
  | _ :: _, 0, _ => rfl
  | y :: l, n + 1, x => by simp [setAt, setAt_eq l n x]

theorem run_setObj {b : Nat} {o o' : Obj} (hw : w.heap[b]? = some o) (hc : ∀ c e f, o ≠ .cells c e f) : (setObj b o').run P w = .ok () (setObjAt w b o') := by
  unfold setObj
  cases o with
  | cells c e f => exact absurd rfl (hc c e f)
  | _ => simp [Sem.run, hw, setObjAt]

include hty in
theorem sim_mapUpdate {t : TypeId} {m key x : IV} {H' : IH} (h : HRel N ε H w) (hm : ok ε m) (hk : ok ε key) (hx : ok ε x) (hl : imapUpdate ty t H m key x = some H') :
    ∃ w', (Instr.mapUpdate t (den ε m) (den ε key) (den ε x)).run P w = .ok () w' ∧ Step N ε H w ε H' w' := by
  simp only [imapUpdate, Option.bind_eq_some_iff] at hl
  obtain ⟨ti, ht, hl⟩ := hl
  obtain ⟨d, hu, he, _⟩ := (hty t ti ht).und
  split at hl
  · rename_i kt et r hd
    rw [hd] at he; obtain rfl := descTy_map he
    simp only [Option.bind_eq_some_iff] at hl
    obtain ⟨ki, hki, hl⟩ := hl
    obtain ⟨kd, hku, hke, _⟩ := (hty _ _ hki).und
    split at hl
    · rename_i hp
      simp only [Option.bind_eq_some_iff] at hl
      obtain ⟨ob, hg, hl⟩ := hl
      cases ob with
      | cells _ _ => simp at hl
      | dead => simp at hl
      | loop _ => simp at hl
      | map es =>
        simp only [Option.bind_eq_some_iff] at hl
        obtain ⟨f, hf, hl⟩ := hl
        obtain ⟨L, hL⟩ := hm
        obtain ⟨_, arr, cl, hw, hr, hok⟩ := h.maps r es L hg hL
        have hgo : (getObj L.blk).run P w = .ok (.map arr cl) w := by simp [getObj, Sem.run, hw]
        have hfn := find_some (ε := ε) hke hp es arr.toList 0 f hr hf
        have hfk := run_findKey (P := P) (w := w) hku hfn
        have hset : ∀ o', (setObj L.blk o').run P w = .ok () (setObjAt w L.blk o') := fun o' => run_setObj hw (by simp)
        cases f with
        | none =>
          simp only [Option.some.injEq] at hl
          subst hl
          refine ⟨setObjAt w L.blk (.map (arr.push { key := den ε key, val := den ε x, born := cl }) (cl + 1)), ?_, Step.mapPut h hg hL hw _ _ _ ?_ ?_⟩
          · simp only [Instr.mapUpdate, den, hL, Sem.run_bind, run_underlying hu, Result.andThen_ok, hgo, run_checkKey (w := w) hku hke hp, hfk, Option.map_none, hset]
          · simp [hr]
          · intro y hy
            rcases List.mem_append.1 hy with hy | hy
            · exact hok y hy
            · simp at hy; subst hy; exact ⟨hk, hx⟩
        | some q =>
          obtain ⟨j, u⟩ := q
          simp only [Option.some.injEq] at hl
          subst hl
          obtain ⟨n, k, hj, hn, hkt⟩ := ifind_spec es 0 j u hf
          simp only [Nat.zero_add] at hj
          subst hj
          obtain ⟨hke', hsb⟩ := keyEq_true (ε := ε) hp hkt
          have hnl : j < es.length := (List.getElem?_eq_some_iff.1 hn).1
          have hsz : arr.size = es.length := by
            have := congrArg List.length hr
            simpa using this
          have hent : ((arr[j]?).map (·.key)).getD (den ε key) = den ε k := by
            have := congrArg (fun l => l[j]?) hr
            simp only [List.getElem?_map, hn, Array.getElem?_toList, Option.map_some] at this
            cases ha : arr[j]? with
            | none => rw [ha] at this; simp at this
            | some e => rw [ha] at this; simp at this; simp [this.1]
          have hkeep : (Instr.keyThatStays (((arr[j]?).map (·.key)).getD (den ε key)) (den ε key)).run P w = .ok (den ε key) w := by
            rw [hent]; simp [Instr.keyThatStays, hsb]
          refine ⟨setObjAt w L.blk (.map (arr.modify j fun e => { e with key := den ε key, val := den ε x }) cl), ?_, Step.mapPut h hg hL hw _ _ _ ?_ ?_⟩
          · simp only [Instr.mapUpdate, den, hL, Sem.run_bind, run_underlying hu, Result.andThen_ok, hgo, run_checkKey (w := w) hku hke hp, hfk, Option.map_some, hkeep, hset]
          · rw [setAt_eq]
            apply List.ext_getElem?
            intro i
            have hi := congrArg (fun l => l[i]?) hr
            simp only [List.getElem?_map, Array.getElem?_toList] at hi
            simp only [List.getElem?_map, Array.getElem?_toList, Array.getElem?_modify, List.getElem?_set]
            by_cases e : j = i
            · subst e
              simp only [if_true, hnl]
              have : j < arr.size := by omega
              simp [Array.getElem?_eq_getElem this]
            · simp only [e, if_false]
              exact hi
          · intro y hy
            rw [setAt_eq] at hy
            rcases List.mem_or_eq_of_mem_set hy with hy | hy
            · exact hok y hy
            · subst hy; exact ⟨hk, hx⟩
    · cases hl
  · cases hl
end
end Go.Proofs.YtpppmgfiidlfjaaGreatDoor.Sim
