/-
  Laws of the tries, of lists and of the quick arithmetic.
-/
import Derived.Test.YtpppmgfiidlfjaaGreatDoorSuA
set_option linter.unusedSimpArgs false
set_option linter.unusedVariables false
set_option linter.unusedSectionVars false
namespace Go.Proofs.YtpppmgfiidlfjaaGreatDoor.Sim

/- Equations of the trees. -/
section tree
variable {α : Type}
@[simp] theorem Tr.get_e (p : List Bool) : (Tr.e : Tr α).get p = none := rfl
@[simp] theorem Tr.get_n_nil (v : Option α) (l r : Tr α) : (Tr.n v l r).get [] = v := rfl
@[simp] theorem Tr.get_n_true (v : Option α) (l r : Tr α) (p : List Bool) : (Tr.n v l r).get (true :: p) = l.get p := rfl
@[simp] theorem Tr.get_n_false (v : Option α) (l r : Tr α) (p : List Bool) : (Tr.n v l r).get (false :: p) = r.get p := rfl

theorem Tr.get_set_same (x : α) : ∀ (p : List Bool) (t : Tr α), (Tr.set x p t).get p = some x
  | [], .e => rfl
  | [], .n _ _ _ => rfl
  | true :: p, .e => Tr.get_set_same x p .e
  | false :: p, .e => Tr.get_set_same x p .e
  | true :: p, .n _ l _ => Tr.get_set_same x p l
  | false :: p, .n _ _ r => Tr.get_set_same x p r

theorem Tr.get_set_ne (x : α) : ∀ (p q : List Bool) (t : Tr α), p ≠ q → (Tr.set x p t).get q = t.get q
  | [], [], _, h => absurd rfl h
  | [], true :: q, .e, _ => rfl
  | [], false :: q, .e, _ => rfl
  | [], true :: q, .n _ _ _, _ => rfl
  | [], false :: q, .n _ _ _, _ => rfl
  | true :: p, [], .e, _ => rfl
  | false :: p, [], .e, _ => rfl
  | true :: p, [], .n _ _ _, _ => rfl
  | false :: p, [], .n _ _ _, _ => rfl
  | true :: p, true :: q, .e, h => Tr.get_set_ne x p q .e (fun e => h (by rw [e]))
  | false :: p, false :: q, .e, h => Tr.get_set_ne x p q .e (fun e => h (by rw [e]))
  | true :: p, true :: q, .n _ l _, h => Tr.get_set_ne x p q l (fun e => h (by rw [e]))
  | false :: p, false :: q, .n _ _ r, h => Tr.get_set_ne x p q r (fun e => h (by rw [e]))
  | true :: p, false :: q, .e, _ => rfl
  | false :: p, true :: q, .e, _ => rfl
  | true :: p, false :: q, .n _ _ _, _ => rfl
  | false :: p, true :: q, .n _ _ _, _ => rfl
end tree

theorem bitsF_inj : ∀ (f g n m : Nat), n ≤ f → m ≤ g → bitsF f n = bitsF g m → n = m
  | 0, 0, n, m, hn, hm, _ => by omega
  | 0, g + 1, n, m, hn, hm, h => by
    have : n = 0 := by omega
    subst this
    by_cases e : m = 0
    · exact e.symm
    · simp [bitsF, e] at h
  | f + 1, 0, n, m, hn, hm, h => by
    have : m = 0 := by omega
    subst this
    by_cases e : n = 0
    · exact e
    · simp [bitsF, e] at h
  | f + 1, g + 1, n, m, hn, hm, h => by
    by_cases e : n = 0
    · by_cases e' : m = 0
      · omega
      · simp [bitsF, e, e'] at h
    · by_cases e' : m = 0
      · simp [bitsF, e, e'] at h
      · simp only [bitsF, e, e', if_false, List.cons.injEq] at h
        have h2 := bitsF_inj f g (n / 2) (m / 2) (by omega) (by omega) h.2
        have h1 : (n % 2 = 1) ↔ (m % 2 = 1) := by
          have := h.1
          rw [Bool.eq_iff_iff] at this
          simpa using this
        omega

theorem bits_inj {n m : Nat} (h : bits n = bits m) : n = m := bitsF_inj n m n m (Nat.le_refl _) (Nat.le_refl _) h

theorem get_set {α : Type} (x : α) (n m : Nat) (t : Tr α) : (Tr.set x (bits n) t).get (bits m) = if n = m then some x else t.get (bits m) := by
  by_cases h : n = m
  · subst h; simp [Tr.get_set_same]
  · rw [if_neg h, Tr.get_set_ne _ _ _ _ (fun e => h (bits_inj e))]

/- Equations of the list functions. -/
@[simp] theorem takeN_zero (l : List IV) : takeN l 0 = some [] := rfl
@[simp] theorem takeN_nil (n : Nat) : takeN [] (n + 1) = none := rfl
@[simp] theorem takeN_cons (x : IV) (l : List IV) (n : Nat) : takeN (x :: l) (n + 1) = (takeN l n).map (x :: ·) := rfl
@[simp] theorem sub_zero (l : List IV) (n : Nat) : sub l 0 n = takeN l n := rfl
@[simp] theorem sub_nil (o n : Nat) : sub [] (o + 1) n = none := rfl
@[simp] theorem sub_cons (x : IV) (l : List IV) (o n : Nat) : sub (x :: l) (o + 1) n = sub l o n := rfl
@[simp] theorem over_nil (c : List IV) : over c [] = some c := rfl
@[simp] theorem over_none (v : IV) (l : List IV) : over [] (v :: l) = none := rfl
@[simp] theorem over_cons (x v : IV) (c l : List IV) : over (x :: c) (v :: l) = (over c l).map (v :: ·) := rfl
@[simp] theorem splice_zero (c l : List IV) : splice c 0 l = over c l := rfl
@[simp] theorem splice_nil (o : Nat) (l : List IV) : splice [] (o + 1) l = none := rfl
@[simp] theorem splice_cons (x : IV) (c : List IV) (o : Nat) (l : List IV) : splice (x :: c) (o + 1) l = (splice c o l).map (x :: ·) := rfl

theorem takeN_some : ∀ (n : Nat) (l r : List IV), takeN l n = some r → n ≤ l.length ∧ r = l.take n
  | 0, l, r, h => by simp at h; simp [h]
  | n + 1, [], r, h => by simp at h
  | n + 1, x :: l, r, h => by
    simp only [takeN_cons, Option.map_eq_some_iff] at h
    obtain ⟨r', h', rfl⟩ := h
    obtain ⟨h1, rfl⟩ := takeN_some n l r' h'
    simp; omega

theorem sub_some : ∀ (o n : Nat) (l r : List IV), sub l o n = some r → o + n ≤ l.length ∧ r = (l.drop o).take n
  | 0, n, l, r, h => by simpa using takeN_some n l r h
  | o + 1, n, [], r, h => by simp at h
  | o + 1, n, x :: l, r, h => by
    have := sub_some o n l r (by simpa using h)
    simp; exact ⟨by omega, this.2⟩

theorem over_some : ∀ (l c r : List IV), over c l = some r → l.length ≤ c.length ∧ r = l ++ c.drop l.length
  | [], c, r, h => by simp at h; simp [h]
  | v :: l, [], r, h => by simp at h
  | v :: l, x :: c, r, h => by
    simp only [over_cons, Option.map_eq_some_iff] at h
    obtain ⟨r', h', rfl⟩ := h
    obtain ⟨h1, rfl⟩ := over_some l c r' h'
    simp; omega

theorem splice_some : ∀ (o : Nat) (c l r : List IV), splice c o l = some r → o + l.length ≤ c.length ∧ r = c.take o ++ l ++ c.drop (o + l.length)
  | 0, c, l, r, h => by simpa using over_some l c r h
  | o + 1, [], l, r, h => by simp at h
  | o + 1, x :: c, l, r, h => by
    simp only [splice_cons, Option.map_eq_some_iff] at h
    obtain ⟨r', h', rfl⟩ := h
    obtain ⟨h1, rfl⟩ := splice_some o c l r' h'
    refine ⟨by simp; omega, ?_⟩
    simp [show o + 1 + l.length = (o + l.length) + 1 from by omega]

/-- What a spliced list holds. -/
theorem splice_get {o : Nat} {c l r : List IV} (h : splice c o l = some r) (j : Nat) :
    r[j]? = if j < o then c[j]? else if j < o + l.length then l[j - o]? else c[j]? := by
  obtain ⟨h1, rfl⟩ := splice_some o c l r h
  by_cases h2 : j < o
  · rw [if_pos h2, List.append_assoc, List.getElem?_append_left (by simp; omega), List.getElem?_take, if_pos h2]
  · rw [if_neg h2]
    rw [List.append_assoc, List.getElem?_append_right (by simp; omega)]
    have : (c.take o).length = o := by simp; omega
    rw [this]
    by_cases h3 : j < o + l.length
    · rw [if_pos h3, List.getElem?_append_left (by omega)]
    · rw [if_neg h3, List.getElem?_append_right (by omega), List.getElem?_drop]
      congr 1; omega

theorem splice_length {o : Nat} {c l r : List IV} (h : splice c o l = some r) : r.length = c.length := by
  obtain ⟨h1, rfl⟩ := splice_some o c l r h
  simp; omega

/- Numbers. -/
theorem blt_iff {a b : Nat} : (Nat.blt a b = true) ↔ a < b := by
  simp only [Nat.blt, Nat.ble_eq]; omega

theorem ltI_eq (a b : Int) : ltI a b = decide (a < b) := by
  rw [Bool.eq_iff_iff, decide_eq_true_iff]
  cases a with
  | ofNat a => cases b with
    | ofNat b => simp only [ltI, blt_iff]; exact (Int.ofNat_lt).symm
    | negSucc b => simp only [ltI]; constructor
                   · intro h; cases h
                   · intro h; have := Int.negSucc_lt_zero b; have h0 : (0 : Int) ≤ Int.ofNat a := Int.natCast_nonneg a; omega
  | negSucc a => cases b with
    | ofNat b => simp only [ltI]; constructor
                 · intro _; have := Int.negSucc_lt_zero a; have h0 : (0 : Int) ≤ Int.ofNat b := Int.natCast_nonneg b; omega
                 · intro _; trivial
    | negSucc b => simp only [ltI, blt_iff, Int.negSucc_eq]; omega

theorem eqI_eq (a b : Int) : eqI a b = (a == b) := by
  rw [Bool.eq_iff_iff]
  cases a with
  | ofNat a => cases b with
    | ofNat b => simp [eqI]; omega
    | negSucc b => simp [eqI]
  | negSucc a => cases b with
    | ofNat b => simp [eqI]
    | negSucc b => simp [eqI]

theorem wrapI_eq (k : IntKind) (n : Int) : wrapI k n = k.wrap n := by
  have p8 : (2 : Int) ^ 8 = 256 := by decide
  have p7 : (2 : Int) ^ (8 - 1) = 128 := by decide
  have p16 : (2 : Int) ^ 16 = 65536 := by decide
  have p15 : (2 : Int) ^ (16 - 1) = 32768 := by decide
  have p32 : (2 : Int) ^ 32 = 4294967296 := by decide
  have p31 : (2 : Int) ^ (32 - 1) = 2147483648 := by decide
  have p64 : (2 : Int) ^ 64 = 18446744073709551616 := by decide
  have p63 : (2 : Int) ^ (64 - 1) = 9223372036854775808 := by decide
  unfold wrapI
  cases n with
  | ofNat a =>
    simp only []
    cases h : Nat.blt a (lim k) with
    | false => rfl
    | true =>
      have h' := blt_iff.1 h
      simp only [cond_true, Int.ofNat_eq_natCast]
      unfold IntKind.wrap
      cases k <;> simp only [lim, IntKind.bits, IntKind.signed, p8, p7, p16, p15, p32, p31, p64, p63, Bool.true_and, Bool.false_and, decide_eq_true_eq, Bool.false_eq_true, if_false] at h' ⊢ <;> (try split) <;> omega
  | negSucc a =>
    simp only []
    cases h : k.signed && Nat.blt a (lim k) with
    | false => rfl
    | true =>
      simp only [Bool.and_eq_true] at h
      have h' := blt_iff.1 h.2
      have hs := h.1
      simp only [cond_true, Int.negSucc_eq]
      unfold IntKind.wrap
      cases k <;> simp only [lim, IntKind.bits, IntKind.signed, p8, p7, p16, p15, p32, p31, p64, p63, Bool.true_and, Bool.false_and, decide_eq_true_eq, Bool.false_eq_true, if_false] at h' hs ⊢ <;> (try split) <;> omega

theorem andI_eq (k : IntKind) (a b : Int) : andI k a b = k.wrap ((BitVec.ofInt k.bits a &&& BitVec.ofInt k.bits b).toNat) := by
  unfold andI
  cases a with
  | negSucc a => rfl
  | ofNat a => cases b with
    | negSucc b => rfl
    | ofNat b =>
      simp only []
      cases h : Nat.blt a (lim k) && Nat.blt b (lim k) with
      | false => rfl
      | true =>
        simp only [Bool.and_eq_true] at h
        have ha := blt_iff.1 h.1
        have hb := blt_iff.1 h.2
        have hl : lim k ≤ 2 ^ k.bits := by cases k <;> decide
        have hc : Nat.land a b ≤ a := Nat.and_le_left
        have e : (BitVec.ofInt k.bits (Int.ofNat a) &&& BitVec.ofInt k.bits (Int.ofNat b)).toNat = Nat.land a b := by
          simp only [Int.ofNat_eq_natCast, BitVec.ofInt_natCast, BitVec.toNat_and, BitVec.toNat_ofNat]
          rw [Nat.mod_eq_of_lt (by omega), Nat.mod_eq_of_lt (by omega)]; rfl
        simp only [cond_true]
        rw [e, ← wrapI_eq]
        unfold wrapI
        have : Nat.blt (Nat.land a b) (lim k) = true := blt_iff.2 (by omega)
        simp only [Int.ofNat_eq_natCast] at *
        show _ = (bif Nat.blt (Nat.land a b) (lim k) then _ else _)
        rw [this]; rfl

theorem orI_eq (k : IntKind) (a b : Int) : orI k a b = k.wrap ((BitVec.ofInt k.bits a ||| BitVec.ofInt k.bits b).toNat) := by
  unfold orI
  cases a with
  | negSucc a => rfl
  | ofNat a => cases b with
    | negSucc b => rfl
    | ofNat b =>
      simp only []
      cases h : Nat.blt a (lim k) && Nat.blt b (lim k) with
      | false => rfl
      | true =>
        simp only [Bool.and_eq_true] at h
        have ha := blt_iff.1 h.1
        have hb := blt_iff.1 h.2
        have hl : lim k ≤ 2 ^ k.bits := by cases k <;> decide
        have hp : ∃ m, lim k = 2 ^ m := by
          cases k <;> first | exact ⟨7, rfl⟩ | exact ⟨15, rfl⟩ | exact ⟨31, rfl⟩ | exact ⟨63, rfl⟩ | exact ⟨8, rfl⟩ | exact ⟨16, rfl⟩ | exact ⟨32, rfl⟩ | exact ⟨64, rfl⟩
        have hc : Nat.lor a b < lim k := by
          obtain ⟨m, hm⟩ := hp
          rw [hm] at ha hb ⊢
          exact Nat.or_lt_two_pow ha hb
        have e : (BitVec.ofInt k.bits (Int.ofNat a) ||| BitVec.ofInt k.bits (Int.ofNat b)).toNat = Nat.lor a b := by
          simp only [Int.ofNat_eq_natCast, BitVec.ofInt_natCast, BitVec.toNat_or, BitVec.toNat_ofNat]
          rw [Nat.mod_eq_of_lt (by omega), Nat.mod_eq_of_lt (by omega)]; rfl
        simp only [cond_true]
        rw [e, ← wrapI_eq]
        unfold wrapI
        have : Nat.blt (Nat.lor a b) (lim k) = true := blt_iff.2 hc
        show _ = (bif Nat.blt (Nat.lor a b) (lim k) then _ else _)
        rw [this]; rfl

theorem notI_eq (k : IntKind) (n : Int) : notI k n = k.wrap ((BitVec.ofInt k.bits (if k.signed then -1 else k.max) ^^^ BitVec.ofInt k.bits n).toNat) := by
  unfold notI
  split
  · rename_i a
    cases h : Nat.blt a (lim .i64) with
    | false => rfl
    | true =>
      have ha := blt_iff.1 h
      simp only [lim] at ha
      simp only [cond_true]
      have e : (BitVec.ofInt IntKind.i64.bits (if IntKind.i64.signed = true then -1 else IntKind.i64.max) ^^^ BitVec.ofInt IntKind.i64.bits (Int.ofNat a)).toNat = 18446744073709551615 - a := by
        have : (BitVec.ofInt IntKind.i64.bits (if IntKind.i64.signed = true then -1 else IntKind.i64.max)) = BitVec.allOnes 64 := by
          show BitVec.ofInt 64 (-1) = _
          decide
        rw [this]
        show (BitVec.allOnes 64 ^^^ BitVec.ofInt 64 (Int.ofNat a)).toNat = _
        rw [BitVec.allOnes_xor, BitVec.toNat_not]
        simp only [Int.ofNat_eq_natCast, BitVec.ofInt_natCast, BitVec.toNat_ofNat]
        rw [Nat.mod_eq_of_lt (by omega)]
      rw [e]
      show Int.negSucc a = IntKind.i64.wrap ((18446744073709551615 - a : Nat) : Int)
      unfold IntKind.wrap
      have p64 : (2 : Int) ^ IntKind.i64.bits = 18446744073709551616 := by decide
      have p63 : (2 : Int) ^ (IntKind.i64.bits - 1) = 9223372036854775808 := by decide
      simp only [p64, p63, IntKind.signed, Bool.true_and, decide_eq_true_eq, Int.negSucc_eq]
      split <;> omega
  · rfl
end Go.Proofs.YtpppmgfiidlfjaaGreatDoor.Sim
