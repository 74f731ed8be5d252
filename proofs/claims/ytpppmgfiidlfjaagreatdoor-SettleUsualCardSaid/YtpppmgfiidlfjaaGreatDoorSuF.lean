/-
  Comparisons, operators and conversions are simulated.
-/
import Derived.Test.YtpppmgfiidlfjaaGreatDoorSuE
set_option linter.unusedSimpArgs false
set_option linter.unusedVariables false
set_option linter.unusedSectionVars false
namespace Go.Proofs.YtpppmgfiidlfjaaGreatDoor.Sim
section
variable {P : Program} {N : Nat} {ε : Env} {H : IH} {w : World} {ty : TypeId → Option TI} (hty : TysOk P ty)

theorem eqFieldsI_nil (eq : TypeId → IV → IV → Option Bool) (xs ys : List IV) : eqFieldsI ty eq xs ys [] = some true := rfl
theorem eqFieldsI_cons (eq : TypeId → IV → IV → Option Bool) (xs ys : List IV) (f : TypeId × Nat) (fs : List (TypeId × Nat)) :
    eqFieldsI ty eq xs ys (f :: fs) = (ty f.1).bind fun fi => (ipart fi xs f.2).bind fun vx => (ipart fi ys f.2).bind fun vy =>
      (eq f.1 vx vy).bind fun r => bif r then eqFieldsI ty eq xs ys fs else some false := rfl

include hty in
theorem sim_equalIn : ∀ (d : Nat) (t : TypeId) (x y : IV) (r : Bool), ok ε x → ok ε y → equalI ty d t x y = some r → ∀ D, d ≤ D → (Op.equalIn D t (den ε x) (den ε y)).run P w = .ok r w
  | 0, t, x, y, r, _, _, h => by simp [equalI] at h
  | d + 1, t, x, y, r, hx, hy, h => by
    intro D hD
    obtain ⟨D, rfl⟩ : ∃ D', D = D' + 1 := ⟨D - 1, by omega⟩
    simp only [equalI, Option.bind_eq_some_iff] at h
    obtain ⟨ti, ht, h⟩ := h
    obtain ⟨ds, hu, he, hq⟩ := (hty t ti ht).und
    unfold eqAs at h
    split at h
    · rename_i hd; rw [hd] at he; obtain rfl := descTy_bool he
      cases h; simp [Op.equalIn, den, run_underlying hu]
    · rename_i hd; rw [hd] at he; obtain rfl := descTy_int he
      split at h
      · rename_i hk; subst hk; cases h; simp [Op.equalIn, den, run_underlying hu, eqI_eq]
      · cases h
    · rename_i hd; rw [hd] at he; obtain rfl := descTy_str he
      cases h; simp [Op.equalIn, den, run_underlying hu, beq_toListBytes]
    · rename_i hd; rw [hd] at he; obtain rfl := descTy_ptr he
      cases h; simp [Op.equalIn, den, run_underlying hu]
    · rename_i hd; rw [hd] at he; obtain rfl := descTy_ptr he
      obtain ⟨L, hL⟩ := hy
      cases h; simp [Op.equalIn, den, hL, run_underlying hu]
    · rename_i hd; rw [hd] at he; obtain rfl := descTy_ptr he
      obtain ⟨L, hL⟩ := hx
      cases h; simp [Op.equalIn, den, hL, run_underlying hu]
    · rename_i hd; rw [hd] at he; obtain rfl := descTy_slice he
      cases h; simp [Op.equalIn, den, run_underlying hu]
    · rename_i hd; rw [hd] at he; obtain rfl := descTy_slice he
      obtain ⟨L, hL, _⟩ := hy
      cases h; simp [Op.equalIn, den, hL, run_underlying hu]
    · rename_i hd; rw [hd] at he; obtain rfl := descTy_slice he
      obtain ⟨L, hL, _⟩ := hx
      cases h; simp [Op.equalIn, den, hL, run_underlying hu]
    · rename_i hd; rw [hd] at he; obtain rfl := descTy_map he
      cases h; simp [Op.equalIn, den, run_underlying hu]
    · rename_i hd; rw [hd] at he; obtain rfl := descTy_map he
      obtain ⟨L, hL⟩ := hy
      cases h; simp [Op.equalIn, den, hL, run_underlying hu]
    · rename_i hd; rw [hd] at he; obtain rfl := descTy_map he
      obtain ⟨L, hL⟩ := hx
      cases h; simp [Op.equalIn, den, hL, run_underlying hu]
    · rename_i fs xs ys hd
      rw [hd] at he
      obtain ⟨fields, rfl, rfl⟩ := descTy_struct he
      cases hb : ti.eq with
      | false => simp [hb] at h
      | true =>
        have hm := hq hb
        simp only [mayEq, Bool.and_eq_true, Bool.not_eq_true', List.all_eq_true, bne_iff_ne, ne_eq] at hm
        obtain ⟨⟨hnames, hst⟩, hgt⟩ := hm
        simp only [hb, cond_true] at h
        have hfo : P.fieldsOf t = fields := by simp [Program.fieldsOf, hu]
        simp only [den]
        rw [run_equalIn_struct w D t _ _ (by rw [hfo]; exact hu) hst, hfo]
        have key : ∀ (l : List Field), (∀ f, f ∈ l → ¬ f.name = "_") → eqFieldsI ty (equalI ty d) xs ys (l.map fun f => (f.type, f.offset)) = some r →
            (Op.eqFields D (dens ε xs).toArray (dens ε ys).toArray l).run P w = .ok r w := by
          intro l
          induction l with
          | nil => intro _ h; simp only [List.map_nil, eqFieldsI_nil, Option.some.injEq] at h; subst h; simp [Op.eqFields]
          | cons f l ih =>
            intro hn h
            simp only [List.map_cons, eqFieldsI_cons, Option.bind_eq_some_iff] at h
            obtain ⟨fi, hfi, vx, hvx, vy, hvy, q, hq', h⟩ := h
            have p1 := sim_part (w := w) (hty _ _ hfi) hx hvx
            have p2 := sim_part (w := w) (hty _ _ hfi) hy hvy
            have p3 := sim_equalIn d f.type vx vy q p1.2 p2.2 hq' D (by omega)
            have hnf : f.name ≠ "_" := hn f (by simp)
            simp only [Op.eqFields, hnf, ne_eq, not_false_eq_true, if_true, Sem.run_bind, p1.1, p2.1, p3, Result.andThen_ok]
            cases q with
            | false => simp at h; subst h; simp
            | true => simpa using ih (fun g hg => hn g (by simp [hg])) (by simpa using h)
        exact key _ (fun f hf => hnames f hf) h
    · cases h

theorem eqGuard_int (op : BinOp) (t : TypeId) (x y : Operand) (k k' : IntKind) (a b : Int) : (eqGuard op t x y (.int k a) (.int k' b)).run P w = .ok () w := by
  cases op <;> simp [eqGuard]
theorem eqGuard_string (op : BinOp) (t : TypeId) (x y : Operand) (a b : ByteArray) : (eqGuard op t x y (.string a) (.string b)).run P w = .ok () w := by
  cases op <;> simp [eqGuard]

/-- The two operands of an equality that is no comparison of numbers or strings. -/
def notNum : IV → IV → Prop
  | .i .., .i .. => False
  | .s _, .s _ => False
  | _, _ => True

include hty in
theorem sim_eqGuard (op : BinOp) (t : TypeId) (x y : Operand) {a b : IV} {r : Bool} (ha : ok ε a) (hb : ok ε b) (h : equalI ty 20 t a b = some r) : (eqGuard op t x y (den ε a) (den ε b)).run P w = .ok () w := by
  simp only [equalI, Option.bind_eq_some_iff] at h
  obtain ⟨ti, ht, h⟩ := h
  obtain ⟨ds, hu, he, hq⟩ := (hty t ti ht).und
  unfold eqAs at h
  split at h
  case h_13 fs xs ys hd =>
    rw [hd] at he
    obtain ⟨fields, rfl, rfl⟩ := descTy_struct he
    cases hbq : ti.eq with
    | false => simp [hbq] at h
    | true =>
      have hm := hq hbq
      simp only [mayEq, Bool.and_eq_true, Bool.not_eq_true'] at hm
      exact run_eqGuard_agg w op t x y _ _ hm.2
  case h_14 => cases h
  all_goals first
    | (cases op <;> simp [eqGuard, den]; done)
    | (obtain ⟨L, hL⟩ := ha; cases op <;> simp [eqGuard, den, hL]; done)
    | (obtain ⟨L, hL⟩ := hb; cases op <;> simp [eqGuard, den, hL]; done)
    | (obtain ⟨L, hL, _⟩ := ha; cases op <;> simp [eqGuard, den, hL]; done)
    | (obtain ⟨L, hL, _⟩ := hb; cases op <;> simp [eqGuard, den, hL]; done)

include hty in
theorem eql_run {t : TypeId} {a b : IV} {r : Bool} (ha : ok ε a) (hb : ok ε b) (h : equalI ty 20 t a b = some r) (hn : notNum a b) :
    (binOp .eql t (den ε a) (den ε b)).run P w = .ok (.bool r) w ∧ (binOp .neq t (den ε a) (den ε b)).run P w = .ok (.bool (!r)) w := by
  have hr := sim_equalIn (w := w) hty 20 t a b r ha hb h 10000 (by omega)
  simp only [equalI, Option.bind_eq_some_iff] at h
  obtain ⟨ti, ht, h⟩ := h
  unfold eqAs at h
  have fin : ∀ x y : Value, (Op.equalIn 10000 t x y).run P w = .ok r w → binOp .eql t x y = (do pure (.bool (← Op.equal t x y))) → binOp .neq t x y = (do pure (.bool (!(← Op.equal t x y)))) →
      (binOp .eql t x y).run P w = .ok (.bool r) w ∧ (binOp .neq t x y).run P w = .ok (.bool (!r)) w := by
    intro x y h1 h2 h3
    rw [h2, h3]
    simp [Op.equal, Op.maxDepth, h1]
  split at h
  case h_14 => cases h
  case h_2 => exact hn.elim
  case h_3 => exact hn.elim
  all_goals first
    | exact fin _ _ hr rfl rfl
    | (obtain ⟨L, hL⟩ := ha; simp only [den, hL] at hr ⊢; exact fin _ _ hr rfl rfl)
    | (obtain ⟨L, hL⟩ := hb; simp only [den, hL] at hr ⊢; exact fin _ _ hr rfl rfl)
    | (obtain ⟨L, hL, _⟩ := ha; simp only [den, hL] at hr ⊢; exact fin _ _ hr rfl rfl)
    | (obtain ⟨L, hL, _⟩ := hb; simp only [den, hL] at hr ⊢; exact fin _ _ hr rfl rfl)

include hty in
theorem sim_bin {op : BinOp} {t : TypeId} {x y : Operand} {a b v : IV} (ha : ok ε a) (hb : ok ε b) (h : ibin ty op t a b = some v) :
    ((do eqGuard op t x y (den ε a) (den ε b); binOp op t (den ε a) (den ε b)) : Sem Value).run P w = .ok (den ε v) w ∧ ok ε v := by
  have eqv : ∀ a b, ok ε a → ok ε b → notNum a b → ibinEq ty op t a b = some v →
      ((do eqGuard op t x y (den ε a) (den ε b); binOp op t (den ε a) (den ε b)) : Sem Value).run P w = .ok (den ε v) w ∧ ok ε v := by
    intro a b ha hb hn h
    cases op <;> simp only [ibinEq, Option.map_eq_some_iff, reduceCtorEq] at h
    · obtain ⟨r, hr, rfl⟩ := h
      exact ⟨by simp only [Sem.run_bind, sim_eqGuard hty _ t x y ha hb hr, Result.andThen_ok, (eql_run hty ha hb hr hn).1, den], trivial⟩
    · obtain ⟨r, hr, rfl⟩ := h
      exact ⟨by simp only [Sem.run_bind, sim_eqGuard hty _ t x y ha hb hr, Result.andThen_ok, (eql_run hty ha hb hr hn).2, den], trivial⟩
  unfold ibin at h
  split at h
  · rename_i k a k' b
    split at h
    · rename_i hk
      subst hk
      simp only [den, Sem.run_bind, eqGuard_int, Result.andThen_ok]
      cases op <;> simp only [ibinInt, reduceCtorEq, Option.some.injEq] at h
      case add => subst h; exact ⟨by simp [binOp, Op.intArith, den, wrapI_eq], trivial⟩
      case sub => subst h; exact ⟨by simp [binOp, Op.intArith, den, wrapI_eq], trivial⟩
      case mul => subst h; exact ⟨by simp [binOp, Op.intArith, den, wrapI_eq], trivial⟩
      case quo =>
        cases hz : eqI b 0 with
        | true => simp [hz] at h
        | false =>
          simp only [hz, cond_false, Option.some.injEq] at h
          subst h
          have hb0 : b ≠ 0 := by rw [eqI_eq] at hz; simpa using hz
          exact ⟨by simp [binOp, Op.intDiv, hb0, den, wrapI_eq], trivial⟩
      case rem =>
        cases hz : eqI b 0 with
        | true => simp [hz] at h
        | false =>
          simp only [hz, cond_false, Option.some.injEq] at h
          subst h
          have hb0 : b ≠ 0 := by rw [eqI_eq] at hz; simpa using hz
          exact ⟨by simp [binOp, Op.intDiv, hb0, den], trivial⟩
      case and => subst h; exact ⟨by simp [binOp, Op.intBits, den, andI_eq], trivial⟩
      case or => subst h; exact ⟨by simp [binOp, Op.intBits, den, orI_eq], trivial⟩
      case xor => subst h; exact ⟨by simp [binOp, Op.intBits, den, xorI], trivial⟩
      case eql => subst h; exact ⟨by simp [binOp, Op.intCmp, den, eqI_eq], trivial⟩
      case neq => subst h; exact ⟨by simp [binOp, Op.intCmp, den, eqI_eq, bne], trivial⟩
      case lss => subst h; exact ⟨by simp [binOp, Op.intCmp, den, ltI_eq], trivial⟩
      case leq => subst h; exact ⟨by simp [binOp, Op.intCmp, den, ltI_eq, ← decide_not, Int.not_lt], trivial⟩
      case gtr => subst h; exact ⟨by simp [binOp, Op.intCmp, den, ltI_eq], trivial⟩
      case geq => subst h; exact ⟨by simp [binOp, Op.intCmp, den, ltI_eq, ← decide_not, Int.not_lt], trivial⟩
    · cases h
  · rename_i a b
    simp only [den, Sem.run_bind, eqGuard_string, Result.andThen_ok]
    cases op <;> simp only [ibinStr, reduceCtorEq, Option.some.injEq] at h
    case add =>
      split at h
      · cases h
      · rename_i hle
        cases h
        exact ⟨by simp only [binOp, Op.stringOp, hle, if_false, Sem.run_pure, den], trivial⟩
    case eql => subst h; exact ⟨by simp [binOp, Op.stringOp, den], trivial⟩
    case neq => subst h; exact ⟨by simp [binOp, Op.stringOp, den], trivial⟩
    case lss => subst h; exact ⟨by simp [binOp, Op.stringOp, den], trivial⟩
    case leq => subst h; exact ⟨by simp [binOp, Op.stringOp, den], trivial⟩
    case gtr => subst h; exact ⟨by simp [binOp, Op.stringOp, den], trivial⟩
    case geq => subst h; exact ⟨by simp [binOp, Op.stringOp, den], trivial⟩
  · rename_i h1 h2
    refine eqv a b ha hb ?_ h
    unfold notNum
    split
    · exact h1 _ _ _ _ rfl rfl
    · exact h2 _ _ rfl rfl
    · trivial

theorem sim_un {op : UnOp} {a v : IV} (h : iun op a = some v) : (Op.unary op (den ε a)).run P w = .ok (den ε v) w ∧ ok ε v := by
  unfold iun at h
  split at h
  · cases h; exact ⟨by simp [Op.unary, Op.intArith, den, wrapI_eq], trivial⟩
  · cases h; exact ⟨by simp [Op.unary, den], trivial⟩
  · cases h; exact ⟨by simp [Op.unary, Op.intBits, den, notI_eq], trivial⟩
  · cases h

include hty in
theorem sim_conv {s d : TypeId} {a v : IV} (h : iconv ty s d a = some v) : (convert s d (den ε a)).run P w = .ok (den ε v) w ∧ ok ε v := by
  simp only [iconv, Option.bind_eq_some_iff] at h
  obtain ⟨si, hs, di, hd, h⟩ := h
  obtain ⟨ds, hus, hes, _⟩ := (hty s si hs).und
  obtain ⟨dd, hud, hed, _⟩ := (hty d di hd).und
  split at h
  · rename_i k k' n h2
    rw [h2] at hed; obtain rfl := descTy_int hed
    cases h
    exact ⟨by simp [convert, run_underlying hus, run_underlying hud, den, Conv.intToInt, wrapI_eq], trivial⟩
  · rename_i x h2
    rw [h2] at hed; obtain rfl := descTy_str hed
    cases h
    refine ⟨?_, trivial⟩
    simp only [convert, Sem.run_bind, run_underlying hus, run_underlying hud, Result.andThen_ok, den]
    cases ds <;> rfl
  · cases h
end
end Go.Proofs.YtpppmgfiidlfjaaGreatDoor.Sim
