/-
  The evaluator's operators and the model's.
-/
import Derived.Test.YteaddglfdjnbdaaGreatDoorPdOps5
import Derived.IntWalk
import Derived.Laws.StructEq
set_option linter.unusedVariables false
set_option linter.unusedSimpArgs false
namespace Pd
open Go
variable {P : Program} {C : Ctx} {base : World}

/-! ### Numbers -/

theorem inKind_wrap {k : IntKind} {n : Int} (h : inKind k n = true) : k.wrap n = n := by
  cases k <;> cases n <;> simp only [inKind, Bool.false_eq_true] at h <;> have h := of_blt h
  · exact IntWalk.i32_in _ ⟨by simp only [Int.ofNat_eq_natCast]; omega, by simp only [Int.ofNat_eq_natCast]; omega⟩
  · exact IntWalk.i32_in _ ⟨by omega, by omega⟩
  · exact IntWalk.i64_in _ ⟨by simp only [Int.ofNat_eq_natCast]; omega, by simp only [Int.ofNat_eq_natCast]; omega⟩
  · exact IntWalk.i64_in _ ⟨by omega, by omega⟩
  · exact IntWalk.u8_in _ ⟨by simp only [Int.ofNat_eq_natCast]; omega, by simp only [Int.ofNat_eq_natCast]; omega⟩
  · exact IntWalk.u32_in _ ⟨by simp only [Int.ofNat_eq_natCast]; omega, by simp only [Int.ofNat_eq_natCast]; omega⟩
  · exact IntWalk.u64_in _ ⟨by simp only [Int.ofNat_eq_natCast]; omega, by simp only [Int.ofNat_eq_natCast]; omega⟩

theorem wrapF_eq (k : IntKind) (n : Int) : wrapF k n = k.wrap n := by
  unfold wrapF
  cases h : inKind k n with
  | true => exact (inKind_wrap h).symm
  | false => rfl

theorem ilt_eq (a b : Int) : ilt a b = decide (a < b) := by
  cases a <;> cases b <;> simp only [ilt]
  · rename_i a b
    cases h : Nat.blt a b with
    | true => have := of_blt h; simp; omega
    | false => have := not_blt h; simp; omega
  · simp; omega
  · simp; omega
  · rename_i a b
    cases h : Nat.blt b a with
    | true => have := of_blt h; simp; omega
    | false => have := not_blt h; simp; omega

theorem ieq_eq (a b : Int) : ieq a b = (a == b) := by
  cases a <;> cases b <;> simp only [ieq]
  · rename_i a b
    cases h : Nat.beq a b with
    | true => have := Nat.beq_true h; subst this; simp
    | false => have := Nat.beq_false h; symm; simp; omega
  · symm; simp
  · symm; simp
  · rename_i a b
    cases h : Nat.beq a b with
    | true => have := Nat.beq_true h; subst this; simp
    | false => have := Nat.beq_false h; symm; simp; omega

theorem kindEq_eq {a b : IntKind} (h : kindEq a b = true) : a = b := by cases a <;> cases b <;> first | rfl | cases h

theorem streq_eq : ∀ (a b : List UInt8), streq a b = (a == b)
  | [], [] => rfl
  | [], _ :: _ => rfl
  | _ :: _, [] => rfl
  | a :: x, b :: y => by
    simp only [streq, u8eq]
    cases h : Nat.beq a.toNat b.toNat with
    | true =>
      have : a = b := UInt8.toNat_inj.1 (Nat.beq_true h)
      subst this
      simp [streq_eq x y]
    | false =>
      have : a ≠ b := fun e => Nat.beq_false h (by rw [e])
      simp [this]

theorem strlt_eq : ∀ (a b : List UInt8), strlt a b = Op.bytesLess a b
  | [], [] => rfl
  | _ :: _, [] => rfl
  | [], _ :: _ => rfl
  | a :: x, b :: y => by
    simp only [strlt, Op.bytesLess, u8eq]
    cases h : Nat.blt a.toNat b.toNat with
    | true => have : a < b := UInt8.lt_iff_toNat_lt.2 (of_blt h); simp [this]
    | false =>
      have : ¬ a < b := fun e => by have := UInt8.lt_iff_toNat_lt.1 e; have := not_blt h; omega
      cases h2 : Nat.beq a.toNat b.toNat with
      | true =>
        have hab : a = b := UInt8.toNat_inj.1 (Nat.beq_true h2)
        subst hab
        simp [strlt_eq x y]
      | false =>
        have hab : a ≠ b := fun e => Nat.beq_false h2 (by rw [e])
        simp [this, hab]

theorem bits_back {k : IntKind} {x y r : Nat} (hr : inKind k (Int.ofNat r) = true) : k.wrap ((r : Nat) : Int) = (r : Int) := inKind_wrap hr

theorem inKind_lt {k : IntKind} {x : Nat} (h : inKind k (Int.ofNat x) = true) : x < 2 ^ k.bits := by
  cases k <;> simp only [inKind] at h <;> first | (have := of_blt h; simp only [IntKind.bits]; omega) | cases h

theorem ofInt_small {k : IntKind} {x : Nat} (h : inKind k (Int.ofNat x) = true) : (BitVec.ofInt k.bits (Int.ofNat x)) = BitVec.ofNat k.bits x := by
  rw [Int.ofNat_eq_natCast, BitVec.ofInt_natCast]

theorem inKind_le {k : IntKind} {x y r : Nat} (hx : inKind k (Int.ofNat x) = true) (hr : ∀ n, x < 2 ^ n → r < 2 ^ n) : inKind k (Int.ofNat r) = true := by
  cases k <;> simp only [inKind] at hx ⊢ <;> first
    | exact blt_of (hr 63 (of_blt hx))
    | exact blt_of (hr 64 (of_blt hx))
    | exact blt_of (hr 32 (of_blt hx))
    | exact blt_of (hr 31 (of_blt hx))
    | exact blt_of (hr 8 (of_blt hx))
    | cases hx

theorem inKind_le2 {k : IntKind} {x y r : Nat} (hx : inKind k (Int.ofNat x) = true) (hy : inKind k (Int.ofNat y) = true) (hr : ∀ n, x < 2 ^ n → y < 2 ^ n → r < 2 ^ n) : inKind k (Int.ofNat r) = true := by
  cases k <;> simp only [inKind] at hx hy ⊢ <;> first
    | exact blt_of (hr 63 (of_blt hx) (of_blt hy))
    | exact blt_of (hr 64 (of_blt hx) (of_blt hy))
    | exact blt_of (hr 32 (of_blt hx) (of_blt hy))
    | exact blt_of (hr 31 (of_blt hx) (of_blt hy))
    | exact blt_of (hr 8 (of_blt hx) (of_blt hy))
    | cases hx

theorem run_intBin {op : BinOp} {k : IntKind} {a b : Int} {r : AV} {t : TypeId} (hs : op ≠ .shl ∧ op ≠ .shr) (h : intBin op k a b = some r) : ∃ v, (∀ w, (binOp op t (.int k a) (.int k b)).run P w = .ok v w) ∧ ∀ μ, VR μ r v := by
  cases op <;> simp only [intBin] at h
  case add => cases h; exact ⟨.int k (k.wrap (a + b)), fun w => by simp [binOp, Op.intArith], fun μ => by simp only [VR, wrapF_eq]⟩
  case sub => cases h; exact ⟨.int k (k.wrap (a - b)), fun w => by simp [binOp, Op.intArith], fun μ => by simp only [VR, wrapF_eq]⟩
  case mul => cases h; exact ⟨.int k (k.wrap (a * b)), fun w => by simp [binOp, Op.intArith], fun μ => by simp only [VR, wrapF_eq]⟩
  case quo =>
    rw [ieq_eq] at h
    split at h
    · cases h
    · rename_i h0
      cases h
      have h0 : b ≠ 0 := by simpa using h0
      exact ⟨.int k (k.wrap (a.tdiv b)), fun w => by simp [binOp, Op.intDiv, h0], fun μ => by simp only [VR, wrapF_eq]⟩
  case rem =>
    rw [ieq_eq] at h
    split at h
    · cases h
    · rename_i h0
      cases h
      have h0 : b ≠ 0 := by simpa using h0
      exact ⟨.int k (a.tmod b), fun w => by simp [binOp, Op.intDiv, h0], fun μ => by simp only [VR]⟩
  case and =>
    split at h
    · rename_i x y
      split at h
      · rename_i hg
        cases h
        simp only [Bool.and_eq_true] at hg
        have hr : inKind k (Int.ofNat (Nat.land x y)) = true := inKind_le2 (x := x) (y := y) hg.1 hg.2 (fun n h1 h2 => Nat.lt_of_le_of_lt Nat.and_le_left h1)
        refine ⟨.int k (Nat.land x y), fun w => ?_, fun μ => by simp only [VR]; rfl⟩
        simp only [binOp, ne_eq, not_true_eq_false, if_false, Op.intBits, Sem.run_pure, ofInt_small hg.1, ofInt_small hg.2, BitVec.toNat_and, BitVec.toNat_ofNat, Nat.mod_eq_of_lt (inKind_lt hg.1), Nat.mod_eq_of_lt (inKind_lt hg.2)]
        exact congrArg (fun z => Result.ok (Value.int k z) w) (inKind_wrap hr)
      · cases h
    · cases h
  case or =>
    split at h
    · rename_i x y
      split at h
      · rename_i hg
        cases h
        simp only [Bool.and_eq_true] at hg
        have hr : inKind k (Int.ofNat (Nat.lor x y)) = true := inKind_le2 (x := x) (y := y) hg.1 hg.2 (fun n h1 h2 => Nat.or_lt_two_pow h1 h2)
        refine ⟨.int k (Nat.lor x y), fun w => ?_, fun μ => by simp only [VR]; rfl⟩
        simp only [binOp, ne_eq, not_true_eq_false, if_false, Op.intBits, Sem.run_pure, ofInt_small hg.1, ofInt_small hg.2, BitVec.toNat_or, BitVec.toNat_ofNat, Nat.mod_eq_of_lt (inKind_lt hg.1), Nat.mod_eq_of_lt (inKind_lt hg.2)]
        exact congrArg (fun z => Result.ok (Value.int k z) w) (inKind_wrap hr)
      · cases h
    · cases h
  case xor =>
    split at h
    · rename_i x y
      split at h
      · rename_i hg
        cases h
        simp only [Bool.and_eq_true] at hg
        have hr : inKind k (Int.ofNat (Nat.xor x y)) = true := inKind_le2 (x := x) (y := y) hg.1 hg.2 (fun n h1 h2 => Nat.xor_lt_two_pow h1 h2)
        refine ⟨.int k (Nat.xor x y), fun w => ?_, fun μ => by simp only [VR]; rfl⟩
        simp only [binOp, ne_eq, not_true_eq_false, if_false, Op.intBits, Sem.run_pure, ofInt_small hg.1, ofInt_small hg.2, BitVec.toNat_xor, BitVec.toNat_ofNat, Nat.mod_eq_of_lt (inKind_lt hg.1), Nat.mod_eq_of_lt (inKind_lt hg.2)]
        exact congrArg (fun z => Result.ok (Value.int k z) w) (inKind_wrap hr)
      · cases h
    · cases h
  case eql => cases h; exact ⟨.bool (a == b), fun w => by simp [binOp, Op.intCmp], fun μ => by simp only [VR, ieq_eq]⟩
  case neq => cases h; exact ⟨.bool (a != b), fun w => by simp [binOp, Op.intCmp], fun μ => by simp only [VR, ieq_eq]; rfl⟩
  case lss => cases h; exact ⟨.bool (decide (a < b)), fun w => by simp [binOp, Op.intCmp], fun μ => by simp only [VR, ilt_eq]⟩
  case leq => cases h; exact ⟨.bool (decide (a ≤ b)), fun w => by simp [binOp, Op.intCmp], fun μ => by simp only [VR, ilt_eq, Value.bool.injEq]; by_cases hh : b < a <;> simp [hh] <;> omega⟩
  case gtr => cases h; exact ⟨.bool (decide (b < a)), fun w => by simp [binOp, Op.intCmp], fun μ => by simp only [VR, ilt_eq]⟩
  case geq => cases h; exact ⟨.bool (decide (b ≤ a)), fun w => by simp [binOp, Op.intCmp], fun μ => by simp only [VR, ilt_eq, Value.bool.injEq]; by_cases hh : a < b <;> simp [hh] <;> omega⟩
  all_goals first | cases h | exact absurd rfl hs.1 | exact absurd rfl hs.2

theorem run_intD {op : BinOp} {k k' : IntKind} {a b : Int} {r : AV} {t : TypeId} (h : intD op k a k' b = some r) : ∃ v, (∀ w, (binOp op t (.int k a) (.int k' b)).run P w = .ok v w) ∧ ∀ μ, VR μ r v := by
  have sh : ∀ o : BinOp, o = .shl ∨ o = .shr → shiftBin o k a b = some r → ∃ v, (∀ w, (binOp o t (.int k a) (.int k' b)).run P w = .ok v w) ∧ ∀ μ, VR μ r v := by
    intro o ho h
    cases b with
    | negSucc b => cases h
    | ofNat y =>
      simp only [shiftBin] at h
      have hy : ¬ ((Int.ofNat y) < 0) := by simp only [Int.ofNat_eq_natCast]; omega
      rcases ho with rfl | rfl
      · cases hb : Nat.ble y 64 with
        | false => rw [hb] at h; cases h
        | true =>
          rw [hb] at h
          cases h
          exact ⟨.int k (k.wrap (a * 2 ^ (min y k.bits))), fun w => by simp [binOp, Op.shift]; intro hh; omega, fun μ => by simp only [VR, wrapF_eq]⟩
      · cases hb : Nat.ble y 64 with
        | false => rw [hb] at h; cases h
        | true =>
          rw [hb] at h
          cases h
          exact ⟨.int k (a.fdiv (2 ^ (min y k.bits))), fun w => by simp [binOp, Op.shift]; intro hh; omega, fun μ => by simp only [VR]⟩
  unfold intD at h
  split at h
  · exact sh _ (.inl rfl) h
  · exact sh _ (.inr rfl) h
  · rename_i h1 h2
    cases hk : kindEq k k' with
    | false => rw [hk] at h; cases h
    | true =>
      rw [hk] at h
      have := kindEq_eq hk
      subst this
      exact run_intBin ⟨h1, h2⟩ h

theorem bytes_toList (b : List UInt8) : ByteArray.toList ⟨b.toArray⟩ = b := by rw [ByteArray.toList_eq]

theorem run_strBin {op : BinOp} {a b : List UInt8} {r : AV} {t : TypeId} (h : strBin op a b = some r) : ∃ v, (∀ w, (binOp op t (.string ⟨a.toArray⟩) (.string ⟨b.toArray⟩)).run P w = .ok v w) ∧ ∀ μ, VR μ r v := by
  have key : ∀ w, (binOp op t (.string ⟨a.toArray⟩) (.string ⟨b.toArray⟩)).run P w = (Op.stringOp op ⟨a.toArray⟩ ⟨b.toArray⟩).run P w := by
    intro w; cases op <;> rfl
  have ha : ByteArray.size ⟨a.toArray⟩ = a.length := by simp [ByteArray.size]
  have hb : ByteArray.size ⟨b.toArray⟩ = b.length := by simp [ByteArray.size]
  cases op <;> simp only [strBin] at h
  case add =>
    split at h
    · rename_i hl
      cases h
      have hl := of_ble hl
      refine ⟨.string (⟨a.toArray⟩ ++ ⟨b.toArray⟩), fun w => ?_, fun μ => ?_⟩
      · rw [key]
        simp only [Op.stringOp, ha, hb]
        rw [if_neg (by simp only [IntKind.max, IntKind.bits, IntKind.signed]; simp; omega)]
        rfl
      · simp only [VR]
        congr 1
    · cases h
  case eql => cases h; exact ⟨.bool (a == b), fun w => by rw [key]; simp only [Op.stringOp, bytes_toList, Sem.run_pure], fun μ => by simp only [VR, streq_eq]⟩
  case neq => cases h; exact ⟨.bool (!(a == b)), fun w => by rw [key]; simp only [Op.stringOp, bytes_toList, Sem.run_pure], fun μ => by simp only [VR, streq_eq]⟩
  case lss => cases h; exact ⟨.bool (Op.bytesLess a b), fun w => by rw [key]; simp only [Op.stringOp, bytes_toList, Sem.run_pure], fun μ => by simp only [VR, strlt_eq]⟩
  case leq => cases h; exact ⟨.bool (Op.bytesLess a b || a == b), fun w => by rw [key]; simp only [Op.stringOp, bytes_toList, Sem.run_pure], fun μ => by simp only [VR, strlt_eq, streq_eq]⟩
  case gtr => cases h; exact ⟨.bool (!(Op.bytesLess a b || a == b)), fun w => by rw [key]; simp only [Op.stringOp, bytes_toList, Sem.run_pure], fun μ => by simp only [VR, strlt_eq, streq_eq]⟩
  case geq => cases h; exact ⟨.bool (!(Op.bytesLess a b)), fun w => by rw [key]; simp only [Op.stringOp, bytes_toList, Sem.run_pure], fun μ => by simp only [VR, strlt_eq]⟩
  all_goals cases h

/-! ### Equality of flat values -/

mutual
/-- A type all whose cells are bools, numbers, texts: what they are. -/
def Flat (P : Program) : Nat → TypeId → List FK → Prop
  | 0, _, _ => False
  | d + 1, t, ks => (P.underlying t = some .bool ∧ ks = [.bool]) ∨ (∃ k, P.underlying t = some (.int k) ∧ ks = [.int]) ∨ (P.underlying t = some .string ∧ ks = [.str]) ∨
      (P.underlying t = some (.struct (P.fieldsOf t)) ∧ P.stoodInHeld t = false ∧ FlatFs P d (P.fieldsOf t).toList 0 ks)
def FlatFs (P : Program) : Nat → List Field → Nat → List FK → Prop
  | 0, _, _, _ => False
  | _ + 1, [], _, ks => ks = []
  | d + 1, f :: fs, off, ks => f.name ≠ "_" ∧ f.offset = off ∧ ∃ k1 k2, ks = k1 ++ k2 ∧ Flat P d f.type k1 ∧ (∀ w, (Go.sizeOf f.type).run P w = .ok k1.length w) ∧ FlatFs P d fs (off + k1.length) k2
end

/-- A value of a flat type, of its cells. -/
def wrapV (P : Program) (t : TypeId) (xs : List Value) : Value :=
  match P.underlying t with
  | some (.struct _) => .agg xs.toArray
  | _ => xs.headD undef

theorem fits_split : ∀ {k1 k2 : List FK} {a : List AV}, fits (k1 ++ k2) a = true → fits k1 (a.take k1.length) = true ∧ fits k2 (a.drop k1.length) = true ∧ k1.length ≤ a.length
  | [], k2, a, h => ⟨rfl, h, Nat.zero_le _⟩
  | k :: k1, k2, a, h => by
    cases a with
    | nil => cases k <;> cases h
    | cons x a =>
      have key : fits (k1 ++ k2) a = true ∧ ∀ ks l, fits ks l = true → fits (k :: ks) (x :: l) = true := by
        cases k <;> cases x <;> simp only [List.cons_append, fits] at h <;> first | exact ⟨h, fun ks l hl => by simpa only [fits] using hl⟩ | cases h
      obtain ⟨p, q, r⟩ := fits_split key.1
      exact ⟨by simpa using key.2 _ _ p, by simpa using q, by simp; omega⟩

theorem fits_length : ∀ {ks : List FK} {a : List AV}, fits ks a = true → a.length = ks.length
  | [], [], _ => rfl
  | [], _ :: _, h => by cases h
  | k :: ks, [], h => by cases k <;> cases h
  | k :: ks, x :: a, h => by
    have : fits ks a = true := by cases k <;> cases x <;> simp only [fits] at h <;> first | exact h | cases h
    simp [fits_length this]

/-- The comparison, part by part. -/
theorem aeqFlat_split : ∀ {k1 k2 : List FK} {a b : List AV} {r : Bool}, fits (k1 ++ k2) a = true → fits (k1 ++ k2) b = true → aeqFlat (k1 ++ k2) a b = some r →
    (aeqFlat k1 (a.take k1.length) (b.take k1.length) = some false ∧ r = false) ∨ (aeqFlat k1 (a.take k1.length) (b.take k1.length) = some true ∧ aeqFlat k2 (a.drop k1.length) (b.drop k1.length) = some r)
  | [], k2, a, b, r, _, _, h => .inr ⟨by simp [aeqFlat], h⟩
  | k :: k1, k2, a, b, r, ha, hb, h => by
    cases a with
    | nil => cases k <;> cases ha
    | cons x a =>
      cases b with
      | nil => cases k <;> cases hb
      | cons y b =>
        cases k with
        | bool =>
          cases x <;> first | cases ha | skip
          cases y <;> first | cases hb | skip
          rename_i p q
          simp only [List.cons_append, fits] at ha hb
          simp only [List.cons_append, aeqFlat, List.length_cons, List.take_succ_cons, List.drop_succ_cons] at h ⊢
          cases hpq : p == q with
          | true => rw [hpq] at h; exact aeqFlat_split ha hb h
          | false => rw [hpq] at h; cases h; exact .inl ⟨rfl, rfl⟩
        | int =>
          cases x <;> first | cases ha | skip
          cases y <;> first | cases hb | skip
          rename_i kx p ky q
          simp only [List.cons_append, fits] at ha hb
          simp only [List.cons_append, aeqFlat, List.length_cons, List.take_succ_cons, List.drop_succ_cons] at h ⊢
          cases hk : kindEq kx ky with
          | false => rw [hk] at h; cases h
          | true =>
            rw [hk] at h
            simp only at h ⊢
            cases hpq : ieq p q with
            | true => rw [hpq] at h; exact aeqFlat_split ha hb h
            | false => rw [hpq] at h; cases h; exact .inl ⟨rfl, rfl⟩
        | str =>
          cases x <;> first | cases ha | skip
          cases y <;> first | cases hb | skip
          rename_i p q
          simp only [List.cons_append, fits] at ha hb
          simp only [List.cons_append, aeqFlat, List.length_cons, List.take_succ_cons, List.drop_succ_cons] at h ⊢
          cases hpq : streq p q with
          | true => rw [hpq] at h; exact aeqFlat_split ha hb h
          | false => rw [hpq] at h; cases h; exact .inl ⟨rfl, rfl⟩

theorem run_part_flat {t : TypeId} {d : Nat} {k1 : List FK} (hf : Flat P d t k1) (hs : ∀ w, (Go.sizeOf t).run P w = .ok k1.length w) {xs : Array Value} {off : Nat} (hl : off + k1.length ≤ xs.size) (w : World) :
    (part t xs off).run P w = .ok (wrapV P t ((xs.toList.drop off).take k1.length)) w := by
  cases d with
  | zero => simp only [Flat] at hf
  | succ d =>
    have leaf : k1.length = 1 → (isAgg t).run P w = .ok false w → (∀ l, wrapV P t l = l.headD undef) → (part t xs off).run P w = .ok (wrapV P t ((xs.toList.drop off).take k1.length)) w := by
      intro h1 ha hw
      have hlt : off < xs.size := by omega
      simp only [part, Sem.run_bind, ha, Result.andThen_ok, Bool.false_eq_true, if_false, Array.getElem?_eq_getElem hlt, Sem.run_pure, hw, h1]
      congr 1
      rw [List.drop_eq_getElem_cons (by simpa using hlt)]
      simp
    simp only [Flat] at hf
    rcases hf with ⟨hu, rfl⟩ | ⟨k, hu, rfl⟩ | ⟨hu, rfl⟩ | ⟨hu, _, _⟩
    · exact leaf rfl (by simp [isAgg, run_underlying hu]) (fun l => by simp [wrapV, hu])
    · exact leaf rfl (by simp [isAgg, run_underlying hu]) (fun l => by simp [wrapV, hu])
    · exact leaf rfl (by simp [isAgg, run_underlying hu]) (fun l => by simp [wrapV, hu])
    · have ha : (isAgg t).run P w = .ok true w := by simp [isAgg, run_underlying hu]
      simp only [part, Sem.run_bind, ha, Result.andThen_ok, if_true, hs, Sem.run_pure, wrapV, hu]
      congr 2
      apply Array.ext'
      simp [List.take_drop]

theorem equalIn_flat : ∀ (d : Nat), (∀ (t : TypeId) (ks : List FK) (a b : List AV) (xs ys : List Value) (r : Bool) (μ : Mu) (w : World) (n : Nat), Flat P d t ks → VRs μ a xs → VRs μ b ys → fits ks a = true → fits ks b = true → aeqFlat ks a b = some r → d ≤ n →
      (Op.equalIn n t (wrapV P t xs) (wrapV P t ys)).run P w = .ok r w) ∧
    (∀ (fs : List Field) (off : Nat) (ks : List FK) (a b : List AV) (xs ys : List Value) (r : Bool) (μ : Mu) (w : World) (n : Nat), FlatFs P d fs off ks → off ≤ xs.length → off ≤ ys.length → VRs μ a (xs.drop off) → VRs μ b (ys.drop off) → fits ks a = true → fits ks b = true → aeqFlat ks a b = some r → d ≤ n →
      (Op.eqFields n xs.toArray ys.toArray fs).run P w = .ok r w) := by
  intro d
  induction d with
  | zero => exact ⟨fun _ _ _ _ _ _ _ _ _ _ h => by simp only [Flat] at h, fun _ _ _ _ _ _ _ _ _ _ _ h => by simp only [FlatFs] at h⟩
  | succ d ih =>
    obtain ⟨ih1, ih2⟩ := ih
    refine ⟨?_, ?_⟩
    · intro t ks a b xs ys r μ w n hf ha hb fa fb h hn
      obtain ⟨n, rfl⟩ : ∃ m, n = m + 1 := ⟨n - 1, by omega⟩
      simp only [Flat] at hf
      rcases hf with ⟨hu, rfl⟩ | ⟨k, hu, rfl⟩ | ⟨hu, rfl⟩ | ⟨hu, hst, hfs⟩
      · have hw : ∀ l, wrapV P t l = l.headD undef := fun l => by simp [wrapV, hu]
        match a, fa, ha, h with
        | [.bool p], _, ha, h =>
          match b, fb, hb, h with
          | [.bool q], _, hb, h =>
            simp only [VRs, VR] at ha hb
            obtain ⟨_, _, rfl, rfl, rfl⟩ := ha
            obtain ⟨_, _, rfl, rfl, rfl⟩ := hb
            have : r = (p == q) := by
              simp only [aeqFlat] at h
              split at h <;> simp_all
            subst this
            simp [hw, Op.equalIn, run_underlying hu]
      · have hw : ∀ l, wrapV P t l = l.headD undef := fun l => by simp [wrapV, hu]
        match a, fa, ha, h with
        | [.int kx p], _, ha, h =>
          match b, fb, hb, h with
          | [.int ky q], _, hb, h =>
            simp only [VRs, VR] at ha hb
            obtain ⟨_, _, rfl, rfl, rfl⟩ := ha
            obtain ⟨_, _, rfl, rfl, rfl⟩ := hb
            simp only [aeqFlat] at h
            cases hk : kindEq kx ky with
            | false => rw [hk] at h; cases h
            | true =>
              rw [hk, ieq_eq] at h
              have := kindEq_eq hk
              subst this
              have : r = (p == q) := by
                simp only at h
                split at h <;> simp_all
              subst this
              simp [hw, Op.equalIn, run_underlying hu]
      · have hw : ∀ l, wrapV P t l = l.headD undef := fun l => by simp [wrapV, hu]
        match a, fa, ha, h with
        | [.str p], _, ha, h =>
          match b, fb, hb, h with
          | [.str q], _, hb, h =>
            simp only [VRs, VR] at ha hb
            obtain ⟨_, _, rfl, rfl, rfl⟩ := ha
            obtain ⟨_, _, rfl, rfl, rfl⟩ := hb
            have : r = (p == q) := by
              simp only [aeqFlat, streq_eq] at h
              split at h <;> simp_all
            subst this
            simp [hw, Op.equalIn, run_underlying hu, beq_toListBytes, bytes_toList]
      · have hw : ∀ l, wrapV P t l = .agg l.toArray := fun l => by simp [wrapV, hu]
        rw [hw, hw, run_equalIn_struct w n t _ _ hu hst]
        exact ih2 _ 0 ks a b xs ys r μ w n hfs (Nat.zero_le _) (Nat.zero_le _) (by simpa using ha) (by simpa using hb) fa fb h (by omega)
    · intro fs off ks a b xs ys r μ w n hf hxo hyo ha hb fa fb h hn
      cases fs with
      | nil =>
        simp only [FlatFs] at hf
        subst hf
        have e1 := fits_length fa
        have e2 := fits_length fb
        have e1 : a = [] := List.length_eq_zero_iff.1 e1
        have e2 : b = [] := List.length_eq_zero_iff.1 e2
        subst e1 e2
        simp only [aeqFlat, Option.some.injEq] at h
        subst h
        simp [Op.eqFields]
      | cons f fs =>
        simp only [FlatFs] at hf
        obtain ⟨hname, hoff, k1, k2, rfl, hf1, hs, hf2⟩ := hf
        subst hoff
        obtain ⟨fa1, fa2, fal⟩ := fits_split fa
        obtain ⟨fb1, fb2, fbl⟩ := fits_split fb
        have la := ha.length
        have lb := hb.length
        simp only [List.length_drop] at la lb
        have pa := run_part_flat hf1 hs (xs := xs.toArray) (off := f.offset) (by simp; omega) w
        have pb := run_part_flat hf1 hs (xs := ys.toArray) (off := f.offset) (by simp; omega) w
        simp only [Op.eqFields, ne_eq, hname, not_false_eq_true, if_true, Sem.run_bind, pa, pb, Result.andThen_ok]
        have hsp := aeqFlat_split fa fb h
        have first : ∀ q, aeqFlat k1 (a.take k1.length) (b.take k1.length) = some q → (Op.equalIn n f.type (wrapV P f.type ((xs.drop f.offset).take k1.length)) (wrapV P f.type ((ys.drop f.offset).take k1.length))).run P w = .ok q w := fun q hq =>
          ih1 f.type k1 _ _ _ _ q μ w n hf1 (ha.take _) (hb.take _) fa1 fb1 hq (by omega)
        rcases hsp with ⟨h1, rfl⟩ | ⟨h1, h2⟩
        · rw [first _ h1]
          simp
        · rw [first _ h1]
          simp only [Result.andThen_ok, Bool.not_true, Bool.false_eq_true, if_false]
          exact ih2 fs (f.offset + k1.length) k2 _ _ xs ys r μ w n hf2 (by omega) (by omega) (by have := ha.drop k1.length; rwa [List.drop_drop] at this) (by have := hb.drop k1.length; rwa [List.drop_drop] at this) fa2 fb2 h2 (by omega)

end Pd
