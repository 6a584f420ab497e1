/-
  The tries and the visible part of a state: small laws.
-/
import Derived.Test.YteaddglfdjnbdaaGreatDoorPdCore
namespace Pd
open Go

theorem Nat.beq_true {a b : Nat} (h : Nat.beq a b = true) : a = b := Nat.eq_of_beq_eq_true h
theorem Nat.beq_false {a b : Nat} (h : Nat.beq a b = false) : a ≠ b := fun e => by subst e; simp at h

theorem ble_of {a b : Nat} (h : a ≤ b) : Nat.ble a b = true := Nat.ble_eq_true_of_le h
theorem of_ble {a b : Nat} (h : Nat.ble a b = true) : a ≤ b := Nat.le_of_ble_eq_true h
theorem blt_of {a b : Nat} (h : a < b) : Nat.blt a b = true := Nat.ble_eq_true_of_le h
theorem of_blt {a b : Nat} (h : Nat.blt a b = true) : a < b := Nat.le_of_ble_eq_true h
theorem not_ble {a b : Nat} (h : Nat.ble a b = false) : b < a := by
  rcases Nat.lt_or_ge b a with x | x
  · exact x
  · rw [ble_of x] at h; cases h
theorem not_blt {a b : Nat} (h : Nat.blt a b = false) : b ≤ a := by
  rcases Nat.lt_or_ge a b with x | x
  · rw [blt_of x] at h; cases h
  · exact x

theorem Tr.get_nil {α : Type} (n : Nat) : (Tr.nil : Tr α).get n = none := rfl

theorem Tr.get_setF {α : Type} : ∀ (f : Nat) (t : Tr α) (n : Nat) (x : Option α) (m : Nat), n < f → (t.setF f n x).get m = if m = n then x else t.get m := by
  intro f
  induction f with
  | zero => intro t n x m h; omega
  | succ f ih =>
    intro t n x m h
    cases t with
    | nil =>
      unfold Tr.setF
      cases hn : Nat.beq n 0 with
      | true =>
        have := Nat.beq_true hn; subst this
        simp only [Tr.get]
        cases hm : Nat.beq m 0 with
        | true => have := Nat.beq_true hm; subst this; simp
        | false => have := Nat.beq_false hm; rw [if_neg this]; cases Nat.beq (m % 2) 1 <;> rfl
      | false =>
        have hn0 := Nat.beq_false hn
        simp only []
        cases ho : Nat.beq (n % 2) 1 with
        | true =>
          have ho' := Nat.beq_true ho
          simp only [Tr.get]
          cases hm : Nat.beq m 0 with
          | true => have := Nat.beq_true hm; subst this; rw [if_neg (by omega)]
          | false =>
            have hm0 := Nat.beq_false hm
            cases hp : Nat.beq (m % 2) 1 with
            | true =>
              have hp' := Nat.beq_true hp
              simp only []
              rw [ih _ _ _ _ (by omega)]
              by_cases e : m = n
              · subst e; simp
              · rw [if_neg e, if_neg (by omega)]; rfl
            | false =>
              have hp' := Nat.beq_false hp
              simp only []
              rw [if_neg (by rintro rfl; exact hp' ho')]
        | false =>
          have ho' := Nat.beq_false ho
          simp only [Tr.get]
          cases hm : Nat.beq m 0 with
          | true => have := Nat.beq_true hm; subst this; rw [if_neg (by omega)]
          | false =>
            have hm0 := Nat.beq_false hm
            cases hp : Nat.beq (m % 2) 1 with
            | true =>
              have hp' := Nat.beq_true hp
              simp only []
              rw [if_neg (by rintro rfl; exact ho' hp')]
            | false =>
              have hp' := Nat.beq_false hp
              simp only []
              rw [ih _ _ _ _ (by omega)]
              by_cases e : m = n
              · subst e; simp
              · rw [if_neg e, if_neg (by omega)]; rfl
    | node v l r =>
      unfold Tr.setF
      cases hn : Nat.beq n 0 with
      | true =>
        have := Nat.beq_true hn; subst this
        simp only [Tr.get]
        cases hm : Nat.beq m 0 with
        | true => have := Nat.beq_true hm; subst this; simp
        | false => have := Nat.beq_false hm; simp [this]
      | false =>
        have hn0 := Nat.beq_false hn
        simp only []
        cases ho : Nat.beq (n % 2) 1 with
        | true =>
          have ho' := Nat.beq_true ho
          simp only [Tr.get]
          cases hm : Nat.beq m 0 with
          | true => have := Nat.beq_true hm; subst this; rw [if_neg (by omega)]
          | false =>
            have hm0 := Nat.beq_false hm
            cases hp : Nat.beq (m % 2) 1 with
            | true =>
              have hp' := Nat.beq_true hp
              simp only []
              rw [ih _ _ _ _ (by omega)]
              by_cases e : m = n
              · subst e; simp
              · rw [if_neg e, if_neg (by omega)]
            | false =>
              have hp' := Nat.beq_false hp
              simp only []
              rw [if_neg (by rintro rfl; exact hp' ho')]
        | false =>
          have ho' := Nat.beq_false ho
          simp only [Tr.get]
          cases hm : Nat.beq m 0 with
          | true => have := Nat.beq_true hm; subst this; rw [if_neg (by omega)]
          | false =>
            have hm0 := Nat.beq_false hm
            cases hp : Nat.beq (m % 2) 1 with
            | true =>
              have hp' := Nat.beq_true hp
              simp only []
              rw [if_neg (by rintro rfl; exact ho' hp')]
            | false =>
              have hp' := Nat.beq_false hp
              simp only []
              rw [ih _ _ _ _ (by omega)]
              by_cases e : m = n
              · subst e; simp
              · rw [if_neg e, if_neg (by omega)]

theorem Tr.get_set {α : Type} (t : Tr α) (n : Nat) (x : Option α) (m : Nat) : (t.set n x).get m = if m = n then x else t.get m :=
  Tr.get_setF (n + 1) t n x m (by omega)

theorem Tr.get_set_self {α : Type} (t : Tr α) (n : Nat) (x : Option α) : (t.set n x).get n = x := by rw [Tr.get_set, if_pos rfl]
theorem Tr.get_set_ne {α : Type} (t : Tr α) {n m : Nat} (x : Option α) (h : m ≠ n) : (t.set n x).get m = t.get m := by rw [Tr.get_set, if_neg h]

/-! ### The monad -/

section
variable {α β : Type}
theorem DM.bind_def (m : DM α) (f : α → DM β) (s : St) : (m >>= f) s = match m s with | none => none | some (a, s') => f a s' := rfl
theorem DM.bind_some {m : DM α} {f : α → DM β} {s : St} {r : β × St} (h : (m >>= f) s = some r) : ∃ a s', m s = some (a, s') ∧ f a s' = some r := by
  rw [DM.bind_def] at h
  cases hm : m s with
  | none => rw [hm] at h; cases h
  | some x => obtain ⟨a, s'⟩ := x; rw [hm] at h; exact ⟨a, s', rfl, h⟩
theorem DM.pure_some {a b : α} {s s' : St} (h : (DM.pure a : DM α) s = some (b, s')) : b = a ∧ s' = s := by
  simp only [DM.pure, Option.some.injEq, Prod.mk.injEq] at h; exact ⟨h.1.symm, h.2.symm⟩
theorem DM.lift_some {o : Option α} {b : α} {s s' : St} (h : DM.lift o s = some (b, s')) : o = some b ∧ s' = s := by
  unfold DM.lift at h
  cases o with
  | none => cases h
  | some a => simp only [Option.some.injEq, Prod.mk.injEq] at h; exact ⟨by rw [h.1], h.2.symm⟩
theorem DM.guard_some {b : Bool} {u : Unit} {s s' : St} (h : DM.guard b s = some (u, s')) : b = true ∧ s' = s := by
  unfold DM.guard at h
  cases b with
  | false => cases h
  | true => simp only [Option.some.injEq, Prod.mk.injEq] at h; exact ⟨rfl, h.2.symm⟩
theorem DM.fail_some {r : α × St} {s : St} (h : (DM.fail : DM α) s = some r) : False := by cases h
end

theorem DM.lift_bind {α β : Type} {o : Option α} {f : α → DM β} {s : St} {r : β × St} : (DM.lift o >>= f) s = some r ↔ ∃ a, o = some a ∧ f a s = some r := by
  cases o with
  | none => simp [DM.bind_def, DM.lift]
  | some a => simp [DM.bind_def, DM.lift]

theorem DM.guard_bind {β : Type} {b : Bool} {f : Unit → DM β} {s : St} {r : β × St} : (DM.guard b >>= f) s = some r ↔ b = true ∧ f () s = some r := by
  cases b with
  | false => simp [DM.bind_def, DM.guard]
  | true => simp [DM.bind_def, DM.guard]

theorem DM.pure_iff {α : Type} {a b : α} {s s' : St} : DM.pure a s = some (b, s') ↔ b = a ∧ s' = s := by
  simp [DM.pure, eq_comm]

theorem DM.lift_iff {α : Type} {o : Option α} {b : α} {s s' : St} : DM.lift o s = some (b, s') ↔ o = some b ∧ s' = s := by
  cases o with
  | none => simp [DM.lift]
  | some a => simp [DM.lift, eq_comm]

theorem DM.pure_bind {α β : Type} {a : α} {f : α → DM β} {s : St} {r : β × St} : (DM.pure a >>= f) s = some r ↔ f a s = some r := by
  simp [DM.bind_def, DM.pure]

theorem DM.bind_iff {α β : Type} {m : DM α} {f : α → DM β} {s : St} {r : β × St} : (m >>= f) s = some r ↔ ∃ a s1, m s = some (a, s1) ∧ f a s1 = some r := by
  rw [DM.bind_def]
  cases h : m s with
  | none => simp
  | some p =>
    obtain ⟨a, s1⟩ := p
    constructor
    · intro h'; exact ⟨a, s1, rfl, h'⟩
    · rintro ⟨a', s1', h1, h2⟩; cases h1; exact h2

theorem DM.fail_iff {α : Type} {s : St} {r : α × St} : (DM.fail : DM α) s = some r ↔ False := by simp [DM.fail]


/-! ### Places of the heap -/

/-- A place: what a block is (none), or one of its cells. -/
structure Loc where
  id : Nat
  cell : Option Nat

/-- What lies at a place. -/
inductive LV where
  | mt (m : Mt)
  | cell (v : AV)

def lvO (o : Option AObj) : Option Nat → Option LV
  | none => o.map fun o => .mt o.mt
  | some c => match o with
    | some (.cells cs _ _ _) => (cs[c]?).map .cell
    | _ => none

def lv (g : Nat → Option AObj) (l : Loc) : Option LV := lvO (g l.id) l.cell

def vis (inv : List Msk) (l : Loc) : Bool :=
  match l.cell with
  | none => !(hid inv l.id)
  | some c => !(hidSome inv l.id c (c + 1))

theorem lvO_ext {a b : Option AObj} (h : ∀ c, lvO a c = lvO b c) : a = b := by
  have h0 := h none
  cases a with
  | none => cases b with
    | none => rfl
    | some b => simp [lvO] at h0
  | some a => cases b with
    | none => simp [lvO] at h0
    | some b =>
      simp only [lvO, Option.map_some, Option.some.injEq, LV.mt.injEq] at h0
      cases a with
      | cells cs e fz m =>
        cases b with
        | cells cs' e' fz' m' =>
          simp only [AObj.mt, Mt.cells.injEq] at h0
          obtain ⟨hl, rfl, rfl, rfl⟩ := h0
          have : cs = cs' := by
            apply List.ext_getElem?
            intro c
            have := h (some c)
            simp only [lvO] at this
            cases hc : cs[c]? <;> cases hc' : cs'[c]? <;> simp_all
          rw [this]
        | _ => simp [AObj.mt] at h0
      | _ => cases b <;> simp_all [AObj.mt]

theorem lv_ext {g k : Nat → Option AObj} (h : ∀ l, lv g l = lv k l) : g = k :=
  funext fun id => lvO_ext fun c => h ⟨id, c⟩

/-- Does an entry of the log cover the place? -/
def Lg.at (e : Lg) (l : Loc) : Bool :=
  e.id == l.id && (match e.cell, l.cell with
    | none, none => true
    | some (a, b), some c => Nat.ble a c && Nat.blt c b
    | _, _ => false)

def tch (lg : List Lg) (l : Loc) : Bool := lg.any (·.at l)

theorem tch_nil (l : Loc) : tch [] l = false := rfl
theorem tch_append (a b : List Lg) (l : Loc) : tch (a ++ b) l = (tch a l || tch b l) := by simp [tch]
theorem tch_cons (e : Lg) (b : List Lg) (l : Loc) : tch (e :: b) l = (e.at l || tch b l) := by simp [tch]

/-- What is hidden more. -/
structure InvLe (a b : List Msk) : Prop where
  mt : ∀ id, hid a id = false → hid b id = false
  cell : ∀ id x y, hidSome a id x y = false → hidSome b id x y = false

theorem InvLe.refl (a : List Msk) : InvLe a a := ⟨fun _ h => h, fun _ _ _ h => h⟩
theorem InvLe.trans {a b c : List Msk} (h : InvLe a b) (k : InvLe b c) : InvLe a c := ⟨fun i x => k.mt i (h.mt i x), fun i x y z => k.cell i x y (h.cell i x y z)⟩
theorem InvLe.vis {a b : List Msk} (h : InvLe a b) {l : Loc} (hv : vis a l = true) : vis b l = true := by
  obtain ⟨id, c⟩ := l
  cases c with
  | none => simp only [Pd.vis, Bool.not_eq_true'] at hv ⊢; exact h.mt _ hv
  | some c => simp only [Pd.vis, Bool.not_eq_true'] at hv ⊢; exact h.cell _ _ _ hv
theorem hid_append (a b : List Msk) (id : Nat) : hid (a ++ b) id = (hid a id || hid b id) := by
  induction a with
  | nil => simp [hid]
  | cons m a ih => simp [hid, ih, Bool.or_assoc]
theorem hidSome_append (a b : List Msk) (id x y : Nat) : hidSome (a ++ b) id x y = (hidSome a id x y || hidSome b id x y) := by
  induction a with
  | nil => simp [hidSome]
  | cons m a ih => simp [hidSome, ih, Bool.or_assoc]
theorem hidEach_append (a b : List Msk) (id x y : Nat) : hidEach (a ++ b) id x y = (hidEach a id x y || hidEach b id x y) := by
  induction a with
  | nil => simp [hidEach]
  | cons m a ih => simp [hidEach, ih, Bool.or_assoc]
theorem InvLe.append {a b : List Msk} (m : List Msk) (h : InvLe a b) : InvLe (m ++ a) (m ++ b) :=
  ⟨fun id x => by rw [hid_append] at x ⊢; simp only [Bool.or_eq_false_iff] at x ⊢; exact ⟨x.1, h.mt id x.2⟩,
   fun id x y z => by rw [hidSome_append] at z ⊢; simp only [Bool.or_eq_false_iff] at z ⊢; exact ⟨z.1, h.cell id x y z.2⟩⟩
/-- A row of cells of which none is hidden: each of them is seen. -/
theorem hidSome_each {inv : List Msk} {id x y c : Nat} (h : hidSome inv id x y = false) (h1 : x ≤ c) (h2 : c < y) : hidSome inv id c (c + 1) = false := by
  induction inv with
  | nil => rfl
  | cons m inv ih =>
    simp only [hidSome, Bool.or_eq_false_iff] at h ⊢
    refine ⟨?_, ih h.2⟩
    have h' := h.1
    cases hm : m.has id with
    | false => simp
    | true =>
      rw [hm] at h'
      cases hc : m.cell with
      | none => rw [hc] at h'; simp at h'
      | some p =>
        obtain ⟨a, b⟩ := p
        rw [hc] at h'
        simp only [Bool.true_and, Bool.not_eq_false', Bool.and_eq_true, Nat.ble_eq] at h' ⊢
        exact ⟨by omega, by omega⟩

end Pd
