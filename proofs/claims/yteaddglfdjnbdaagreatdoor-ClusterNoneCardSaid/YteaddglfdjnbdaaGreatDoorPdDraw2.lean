/-
  Regions that draw their order: facts of the run, and what an operation sees in whatever order.
-/
import Derived.Test.YteaddglfdjnbdaaGreatDoorPdDraw1
import Derived.Orders
set_option linter.unusedVariables false
set_option linter.unusedSimpArgs false
namespace Pd
open Go

variable {P : Program} {C : Ctx} {base : World}

/-! ### An operation looks at its operands alone -/

structure FrSame (f g : Fr) : Prop where
  fn : g.fn = f.fn
  n : g.n = f.n
  defers : g.defers = f.defers
  round : g.roundOf = f.roundOf
  gl : g.gl = f.gl

theorem FrSame.refl (f : Fr) : FrSame f f := ⟨rfl, rfl, rfl, rfl, rfl⟩
theorem FrSame.trans {f g h : Fr} (a : FrSame f g) (b : FrSame g h) : FrSame f h := ⟨b.fn.trans a.fn, b.n.trans a.n, b.defers.trans a.defers, b.round.trans a.round, b.gl.trans a.gl⟩
theorem FrSame.symm {f g : Fr} (a : FrSame f g) : FrSame g f := ⟨a.fn.symm, a.n.symm, a.defers.symm, a.round.symm, a.gl.symm⟩

theorem put_some {f g : Fr} {dst : Option Nat} {v : AV} (h : f.put dst v = some g) : FrSame f g ∧ (∀ t, g.env.get t = if dst = some t then some v else f.env.get t) ∧ ∀ d, dst = some d → d < f.n := by
  unfold Fr.put at h
  simp only [Fr.setEnv_eq] at h
  cases dst with
  | none => cases h; exact ⟨FrSame.refl _, fun t => by simp, fun d hd => by cases hd⟩
  | some d =>
    simp only at h
    split at h
    · rename_i hb
      cases h
      refine ⟨⟨rfl, rfl, rfl, rfl, rfl⟩, fun t => ?_, fun e he => by cases he; exact of_blt hb⟩
      simp only [Tr.get_set, Option.some.injEq, eq_comm]
    · cases h

theorem put_of {f : Fr} {dst : Option Nat} {v : AV} (h : ∀ d, dst = some d → d < f.n) : ∃ g, f.put dst v = some g := by
  unfold Fr.put
  simp only [Fr.setEnv_eq]
  cases dst with
  | none => exact ⟨f, rfl⟩
  | some d => simp only [blt_of (h d rfl)]; exact ⟨_, rfl⟩

theorem memN_iff {a : Nat} {l : List Nat} : memN a l = true ↔ a ∈ l := by
  induction l with
  | nil => simp [memN]
  | cons b l ih =>
    unfold memN
    cases h : Nat.beq a b with
    | true => have := Nat.beq_true h; subst this; simp
    | false => have := Nat.beq_false h; simp [ih, this]

theorem tmpsOf_mem {t : Nat} : ∀ {l : List Operand}, Operand.tmp t ∈ l → t ∈ tmpsOf l
  | o :: l, h => by
    cases h with
    | head => simp [tmpsOf]
    | tail _ h =>
      have := tmpsOf_mem h
      unfold tmpsOf
      split
      · rename_i heq; cases heq
      · rename_i heq; cases heq; exact List.mem_cons_of_mem _ this
      · rename_i heq; cases heq; exact this

theorem ev_congr {f g : Fr} (h : FrSame f g) {o : Operand} (ht : ∀ t, o = .tmp t → g.env.get t = f.env.get t) : g.ev o = f.ev o := by
  unfold Fr.ev
  cases o with
  | tmp t => simp only [ht t rfl]
  | global i => simp only [h.gl]
  | _ => rfl

theorem evs_congr {f g : Fr} : ∀ {os : List Operand}, (∀ o ∈ os, g.ev o = f.ev o) → g.evs os = f.evs os
  | [], _ => rfl
  | o :: os, h => by
    unfold Fr.evs
    rw [h o (by simp), evs_congr (fun x hx => h x (List.mem_cons_of_mem _ hx))]

theorem evParts_congr {f g : Fr} : ∀ {os : List (Nat × Operand)}, (∀ o ∈ os, g.ev o.2 = f.ev o.2) → g.evParts os = f.evParts os
  | [], _ => rfl
  | (i, o) :: os, h => by
    unfold Fr.evParts
    rw [h (i, o) (by simp), evParts_congr (fun x hx => h x (List.mem_cons_of_mem _ hx))]

theorem evOpt_congr {f g : Fr} {o : Option Operand} (h : ∀ x, o = some x → g.ev x = f.ev x) : g.evOpt o = f.evOpt o := by
  unfold Fr.evOpt
  cases o with
  | none => rfl
  | some x => simp only [h x rfl]

theorem callOp_congr {K : CallFn} {f g : Fr} (hs : FrSame f g) {c : Call} (h : ∀ x ∈ c.operands, g.ev x = f.ev x) : callOpD C K g c = callOpD C K f c ∧ targetD g c = targetD f c := by
  have ha : g.evs c.args.toList = f.evs c.args.toList := evs_congr fun x hx => h x (by simp [Call.operands]; exact .inr (by simpa using hx))
  have ht : targetD g c = targetD f c := by
    unfold targetD
    cases hc : c.callee with
    | value x =>
      have hx : g.ev x = f.ev x := h x (by simp [Call.operands, hc])
      simp only [hx, ha]
    | _ => rfl
  refine ⟨?_, ht⟩
  unfold callOpD
  cases hc : c.callee with
  | value x => simp only [ht]
  | builtin b => simp only [ha, inRound, hs.round]
  | invoke r m => rfl

theorem opD_congr {K : CallFn} {f g : Fr} (hs : FrSame f g) {o : Oper} (h : ∀ x ∈ o.op.operands, g.ev x = f.ev x) : opD C K g o = opD C K f o := by
  obtain ⟨dst, op, type, pos, after, guard⟩ := o
  unfold opD
  cases op <;> simp only [Op.operands] at h <;> simp only <;> try rfl
  case call c => exact (callOp_congr hs h).1
  case defer c => rw [(callOp_congr (C := C) (K := K) hs h).2]; simp only [inRound, hs.round]
  case build t ps => rw [evParts_congr fun o ho => h o.2 (by simp; exact ⟨o.1, by simpa using ho⟩)]
  case buildSlice t n ps => rw [evParts_congr fun o ho => h o.2 (by simp; exact ⟨o.1, by simpa using ho⟩)]
  case makeFunc fn first captured =>
    rw [evs_congr (os := first.toList) fun o ho => h o (by simp; exact .inl (by simpa using ho)), evs_congr (os := captured.toList) fun o ho => h o (by simp; exact .inr (by simpa using ho))]
  case makeMap t r => rw [evOpt_congr fun x hx => h x (by subst hx; simp)]
  case slice t x lo hi mx =>
    rw [h x (by simp), evOpt_congr (o := lo) fun x hx => h x (by subst hx; simp), evOpt_congr (o := hi) fun x hx => h x (by subst hx; simp), evOpt_congr (o := mx) fun x hx => h x (by subst hx; simp)]
  all_goals simp_all

theorem looks_ev {ops : Array Oper} {o : Oper} {f g : Fr} (hs : FrSame f g) (h : ∀ t ∈ looksAtD ops o, g.env.get t = f.env.get t) : (∀ x ∈ o.op.operands, g.ev x = f.ev x) ∧ wantedD g ops o = wantedD f ops o := by
  constructor
  · intro x hx
    refine ev_congr hs fun t ht => h t ?_
    subst ht
    unfold looksAtD
    exact List.mem_append_right _ (tmpsOf_mem (by simpa using hx))
  · unfold wantedD
    cases hg : o.guard with
    | none => rfl
    | some q =>
      obtain ⟨j, want⟩ := q
      simp only
      cases hj : ops.toList[j]? with
      | none => rfl
      | some p =>
        simp only
        cases hd : p.dst with
        | none => rfl
        | some d =>
          simp only
          rw [h d (by unfold looksAtD; rw [hg]; simp only [hj, hd]; simp)]

/-! ### Facts of the run -/

structure Fact (st : Nat → St) (kp : Nat → Kept) (n : Nat) : Prop where
  lo : (kp n).lo = (st n).ctr
  hi : (kp n).hi = (st (n + 1)).ctr
  le : (st n).ctr ≤ (st (n + 1)).ctr
  log : ∀ p, tch (kp n).log p = true → p.id < (st n).ctr ∧ vis (kp n).mask p = true
  same : ∀ p : Loc, tch (kp n).log p = false → (p.id < (st n).ctr ∨ (st (n + 1)).ctr ≤ p.id) → lv (st (n + 1)).heap.get p = lv (st n).heap.get p
  inv : (st (n + 1)).inv = (st n).inv
  rc : (st (n + 1)).rc = (st n).rc
  base : (st (n + 1)).base = (st n).base

theorem fact {K : CallFn} (hK : ∀ c a, Mono (K c a)) {ops : Array Oper} {st : Nat → St} {fs : Nat → Fr} {kp : Nat → Kept} {vl : Nat → AV} {n : Nat} {o : Oper} (h : DStep C K ops st fs kp vl n o) (hb : (st n).base ≤ (st n).ctr) : Fact st kp n := by
  obtain ⟨h1, h2, h3, h4⟩ := h
  rcases h4 with ⟨_, _, h5, h6⟩ | ⟨_, h5⟩
  · rw [← h5] at h6
    refine ⟨by rw [h6, h5], by rw [h6], by rw [h5]; exact Nat.le_refl _, ?_, fun p _ _ => by rw [h5], by rw [h5], by rw [h5], by rw [h5]⟩
    intro p hp
    rw [h6] at hp
    exact absurd hp (by simp [tch])
  · obtain ⟨cm, s1, a1, a2, a3, a4, a5⟩ := drawOne_some h5
    simp only at a2 a4 a5
    obtain ⟨k', b1, b2⟩ := Mono.opD hK (fs n) o _ _ (Le.refl (s := (st n).sub (unordered (bitsOf ops n) (List.map kp (List.range n)) 0 ++ cm)) (Nat.le_refl _)) _ _ a2
    obtain ⟨l, c1, c2, c3, c4, c5⟩ := b2.log
    have c1' : s1.log = l := by rw [c1]; simp [St.sub]
    have c3' : ∀ e ∈ l, e.id < (st n).ctr := c3
    refine ⟨by rw [a5], by rw [a5, a4]; rfl, by rw [a4]; exact b2.ctr, fun p hp => ?_, fun p hp hr => ?_, by rw [a4]; rfl, by rw [a4]; rfl, by rw [a4]; rfl⟩
    · rw [a5] at hp ⊢
      simp only [c1'] at hp ⊢
      refine ⟨?_, (vis_append (c4 p hp)).2⟩
      rcases Nat.lt_or_ge p.id (st n).ctr with hh | hh
      · exact hh
      · rw [tch_above c3' hh] at hp; cases hp
    · rw [a5] at hp
      simp only [c1'] at hp
      have hr' : p.id < (st n).ctr ∨ s1.ctr ≤ p.id := by rw [a4] at hr; exact hr
      rw [a4]
      exact ((c5 p hr').2 hp).1

structure Run (C : Ctx) (K : CallFn) (ops : Array Oper) (s s' : St) (f f' : Fr) (st : Nat → St) (fs : Nat → Fr) (kp : Nat → Kept) (vl : Nat → AV) : Prop where
  s0 : st 0 = s
  f0 : fs 0 = f
  sN : st ops.size = s'
  fN : fs ops.size = f'
  step : ∀ n o, ops[n]? = some o → DStep C K ops st fs kp vl n o
  fact : ∀ n, n < ops.size → Fact st kp n

theorem Run.of {K : CallFn} (hK : ∀ c a, Mono (K c a)) {ops : Array Oper} {f f' : Fr} {s s' : St} (hb : s.base ≤ s.ctr) (h : drawD C K ops (Region.before ops).toList ops.toList ops.toList 0 [] f s = some (f', s')) : ∃ st fs kp vl, Run C K ops s s' f f' st fs kp vl := by
  obtain ⟨st, fs, kp, vl, e1, e2, e3, e4, e5, e6⟩ := drawD_trace ops.toList 0 [] f f' s s' rfl (Nat.zero_le _) rfl h
  have hbc : ∀ n, n ≤ ops.size → (st n).base ≤ (st n).ctr := by
    intro n
    induction n with
    | zero => intro _; rw [e1]; exact hb
    | succ n ih =>
      intro hn
      have hf := Pd.fact hK (e6 n ops[n] (Nat.zero_le _) (Array.getElem?_eq_getElem hn)) (ih (by omega))
      rw [hf.base]
      exact Nat.le_trans (ih (by omega)) hf.le
  exact ⟨st, fs, kp, vl, e1, e2, e3, e4, fun n o ho => e6 n o (Nat.zero_le _) ho, fun n hn => Pd.fact hK (e6 n ops[n] (Nat.zero_le _) (Array.getElem?_eq_getElem hn)) (hbc n (by omega))⟩

section
variable {K : CallFn} {ops : Array Oper} {s s' : St} {f f' : Fr} {st : Nat → St} {fs : Nat → Fr} {kp : Nat → Kept} {vl : Nat → AV}

theorem Run.ctr_le (h : Run C K ops s s' f f' st fs kp vl) {i : Nat} : ∀ {j : Nat}, i ≤ j → j ≤ ops.size → (st i).ctr ≤ (st j).ctr
  | 0, h1, h2 => by have : i = 0 := by omega
                    subst this; exact Nat.le_refl _
  | j + 1, h1, h2 => by
    by_cases e : i = j + 1
    · subst e; exact Nat.le_refl _
    · exact Nat.le_trans (h.ctr_le (by omega) (by omega)) (h.fact j h2).le

theorem Run.const (h : Run C K ops s s' f f' st fs kp vl) : ∀ {j : Nat}, j ≤ ops.size → (st j).inv = s.inv ∧ (st j).rc = s.rc ∧ (st j).base = s.base
  | 0, h2 => by rw [h.s0]; exact ⟨rfl, rfl, rfl⟩
  | j + 1, h2 => by
    obtain ⟨a, b, c⟩ := h.const (j := j) (by omega)
    have hf := h.fact j h2
    exact ⟨hf.inv.trans a, hf.rc.trans b, hf.base.trans c⟩

theorem Run.same (h : Run C K ops s s' f f' st fs kp vl) : ∀ {j : Nat}, j ≤ ops.size → FrSame f (fs j)
  | 0, h2 => by rw [h.f0]; exact FrSame.refl _
  | j + 1, h2 => (h.same (j := j) (by omega)).trans (put_some (h.step j ops[j] (Array.getElem?_eq_getElem h2)).1).1

/-- Two operations of which the later one does not come behind the earlier one. -/
theorem Run.free (h : Run C K ops s s' f f' st fs kp vl) {j n : Nat} {p o : Oper} (hp : ops[j]? = some p) (ho : ops[n]? = some o) (hlt : j < n) (hb : Nat.testBit (bitsOf ops n) j = false) :
    apartD ops p o = true ∧ hiddenAll (kp n).mask (kp n).hi (kp j).log = true ∧ hiddenAll (kp j).mask (kp j).hi (kp n).log = true ∧
    ∀ q : Loc, (kp j).lo ≤ q.id → q.id < (kp j).hi → vis (kp n).mask q = false := by
  obtain ⟨h1, h2, h3, h4⟩ := h.step n o ho
  have hj : ((List.range n).map kp)[j]? = some (kp j) := by rw [List.getElem?_map, List.getElem?_range hlt]; rfl
  obtain ⟨a, b, c⟩ := freeOf_spec (m := j) h3 (by simpa using hp) hj (by simpa using hb)
  refine ⟨a, b, c, fun q q1 q2 => ?_⟩
  have hn := (Array.getElem?_eq_some_iff.1 ho).1
  rcases h4 with ⟨_, _, _, h6⟩ | ⟨_, h5⟩
  · rw [h6]
    refine vis_hidden (m := ⟨0, (st n).ctr, none⟩) (by simp) rfl (Nat.zero_le _) ?_
    have := (h.fact j (by omega)).hi
    have := h.ctr_le (i := j + 1) (j := n) (by omega) (by omega)
    show q.id < (st n).ctr
    omega
  · obtain ⟨cm, s1, a1, a2, a3, a4, a5⟩ := drawOne_some h5
    simp only at a5
    rw [a5]
    exact vis_hidden (m := ⟨(kp j).lo, (kp j).hi, none⟩) (List.mem_append_left _ (unordered_mem (m := j) hj (by simpa using hb) (by omega))) rfl q1 q2

/-! ### The heap, in whatever order -/

def updp (kp : Nat → Kept) (p : Loc) (n : Nat) : Bool := tch (kp n).log p || (Nat.ble (kp n).lo p.id && Nat.blt p.id (kp n).hi)

theorem updp_iff {p : Loc} {n : Nat} : updp kp p n = true ↔ tch (kp n).log p = true ∨ ((kp n).lo ≤ p.id ∧ p.id < (kp n).hi) := by
  simp [updp]

def heapS (st : Nat → St) (kp : Nat → Kept) (N : Nat) (S : Nat → Bool) (p : Loc) : Option LV := lastS S (updp kp p) (fun n => lv (st (n + 1)).heap.get p) (lv (st 0).heap.get p) N

theorem Run.text (h : Run C K ops s s' f f' st fs kp vl) (p : Loc) : ∀ n, n < ops.size → lv (st (n + 1)).heap.get p = match updp kp p n with | true => lv (st (n + 1)).heap.get p | false => lv (st n).heap.get p := by
  intro n hn
  cases hu : updp kp p n with
  | true => rfl
  | false =>
    have hf := h.fact n hn
    have h1 : tch (kp n).log p = false := by
      cases ht : tch (kp n).log p with
      | false => rfl
      | true => rw [updp_iff.2 (.inl ht)] at hu; cases hu
    refine hf.same p h1 ?_
    rcases Nat.lt_or_ge p.id (st n).ctr with hh | hh
    · exact .inl hh
    · right
      rcases Nat.lt_or_ge p.id (st (n + 1)).ctr with hh2 | hh2
      · rw [updp_iff.2 (.inr ⟨by rw [hf.lo]; exact hh, by rw [hf.hi]; exact hh2⟩)] at hu; cases hu
      · exact hh2

/-- Closed: with each operation those that it comes behind. -/
def Closed (ops : Array Oper) (S : Nat → Bool) : Prop := ∀ n, n < ops.size → S n = true → ∀ j, Nat.testBit (bitsOf ops n) j = true → S j = true

theorem Run.sees (h : Run C K ops s s' f f' st fs kp vl) {S : Nat → Bool} (hS : Closed ops S) {i : Nat} (hi : i < ops.size) (hSi : S i = false) (hbef : ∀ j, Nat.testBit (bitsOf ops i) j = true → S j = true) {p : Loc}
    (hv : vis (kp i).mask p = true) (hp : p.id < (st i).ctr) : heapS st kp ops.size S p = lv (st i).heap.get p := by
  refine lastS_agree (T := fun n => lv (st n).heap.get p) (by omega) (h.text p) ?_ ?_
  · intro n hn hu
    cases hb : Nat.testBit (bitsOf ops i) n with
    | true => exact hbef n hb
    | false =>
      obtain ⟨_, f1, f2, f3⟩ := h.free (Array.getElem?_eq_getElem (show n < ops.size by omega)) (Array.getElem?_eq_getElem hi) hn hb
      rcases updp_iff.1 hu with hu | ⟨u1, u2⟩
      · rcases hiddenAll_spec f1 hu with hh | hh
        · have := (h.fact i hi).hi
          have := (h.fact i hi).le
          omega
        · rw [hh] at hv; cases hv
      · rw [f3 p u1 u2] at hv; cases hv
  · intro n h1 h2 hs
    have hne : n ≠ i := by rintro rfl; rw [hSi] at hs; cases hs
    have hb : Nat.testBit (bitsOf ops n) i = false := by
      cases hb : Nat.testBit (bitsOf ops n) i with
      | false => rfl
      | true => rw [hS n h2 hs i hb] at hSi; cases hSi
    obtain ⟨_, f1, f2, f3⟩ := h.free (Array.getElem?_eq_getElem hi) (Array.getElem?_eq_getElem h2) (by omega) hb
    cases hu : updp kp p n with
    | false => rfl
    | true =>
      rcases updp_iff.1 hu with hu | ⟨u1, u2⟩
      · rcases hiddenAll_spec f2 hu with hh | hh
        · have := (h.fact i hi).hi
          have := (h.fact i hi).le
          omega
        · rw [hh] at hv; cases hv
      · have := (h.fact n h2).lo
        have := h.ctr_le (i := i) (j := n) h1 (by omega)
        omega

/-- A block that is not there yet when the region ends. -/
theorem Run.beyond (h : Run C K ops s s' f f' st fs kp vl) {p : Loc} (hp : (st ops.size).ctr ≤ p.id) {n : Nat} (hn : n < ops.size) : updp kp p n = false := by
  cases hu : updp kp p n with
  | false => rfl
  | true =>
    have hf := h.fact n hn
    have := h.ctr_le (i := n + 1) (j := ops.size) (by omega) (by omega)
    rcases updp_iff.1 hu with hu | ⟨u1, u2⟩
    · have := (hf.log p hu).1
      have := hf.le
      omega
    · have := hf.hi
      omega

/-- A block of an operation that has not run yet. -/
theorem Run.unborn (h : Run C K ops s s' f f' st fs kp vl) {S : Nat → Bool} (hS : Closed ops S) {i : Nat} (hi : i < ops.size) (hSi : S i = false) {p : Loc} (h1 : (kp i).lo ≤ p.id) (h2 : p.id < (kp i).hi) : heapS st kp ops.size S p = lv (st 0).heap.get p := by
  refine lastS_none fun n hn => ?_
  cases hs : S n with
  | false => rfl
  | true =>
    have hne : n ≠ i := by rintro rfl; rw [hSi] at hs; cases hs
    have fi := h.fact i hi
    have fn := h.fact n hn
    simp only [Bool.true_and]
    cases hu : updp kp p n with
    | false => rfl
    | true =>
      exfalso
      rcases Nat.lt_or_ge n i with hlt | hge
      · have := h.ctr_le (i := n + 1) (j := i) (by omega) (by omega)
        rcases updp_iff.1 hu with hu | ⟨u1, u2⟩
        · have := (fn.log p hu).1; have := fn.le; have := fi.lo; omega
        · have := fn.hi; have := fi.lo; omega
      · have := h.ctr_le (i := i + 1) (j := n) (by omega) (by omega)
        rcases updp_iff.1 hu with hu | ⟨u1, u2⟩
        · have hb : Nat.testBit (bitsOf ops n) i = false := by
            cases hb : Nat.testBit (bitsOf ops n) i with
            | false => rfl
            | true => rw [hS n hn hs i hb] at hSi; cases hSi
          obtain ⟨_, f1, f2, f3⟩ := h.free (Array.getElem?_eq_getElem hi) (Array.getElem?_eq_getElem hn) (by omega) hb
          have := (fn.log p hu).2
          rw [f3 p h1 h2] at this; cases this
        · have := fn.lo; have := fi.hi; omega

/-- The operation i has run. -/
theorem Run.ran (h : Run C K ops s s' f f' st fs kp vl) {S S' : Nat → Bool} (hS : Closed ops S) {i : Nat} (hi : i < ops.size) (hSi : S i = false) (hS' : ∀ n, n ≠ i → S' n = S n) (hSi' : S' i = true) (p : Loc) :
    heapS st kp ops.size S' p = match updp kp p i with | true => lv (st (i + 1)).heap.get p | false => heapS st kp ops.size S p := by
  cases hu : updp kp p i with
  | false => exact lastS_skip hS' hu
  | true =>
    refine lastS_put hi hS' hSi' hu ?_
    intro n hlt hn hs
    have hb : Nat.testBit (bitsOf ops n) i = false := by
      cases hb : Nat.testBit (bitsOf ops n) i with
      | false => rfl
      | true => rw [hS n hn hs i hb] at hSi; cases hSi
    obtain ⟨_, f1, f2, f3⟩ := h.free (Array.getElem?_eq_getElem hi) (Array.getElem?_eq_getElem hn) hlt hb
    have fi := h.fact i hi
    have fn := h.fact n hn
    have hle := h.ctr_le (i := i + 1) (j := n) (by omega) (by omega)
    cases hun : updp kp p n with
    | false => rfl
    | true =>
      exfalso
      rcases updp_iff.1 hun with hun | ⟨u1, u2⟩
      · rcases updp_iff.1 hu with hu | ⟨v1, v2⟩
        · rcases hiddenAll_spec f2 hun with hh | hh
          · have := (fi.log p hu).1; have := fi.hi; have := fi.le; omega
          · rw [(fi.log p hu).2] at hh; cases hh
        · have := (fn.log p hun).2
          rw [f3 p v1 v2] at this; cases this
      · rcases updp_iff.1 hu with hu | ⟨v1, v2⟩
        · have := (fi.log p hu).1; have := fn.lo; have := fi.le; omega
        · have := fn.lo; have := fi.hi; omega

/-! ### The temporaries, in whatever order -/

def updt (ops : Array Oper) (t : Nat) (n : Nat) : Bool :=
  match ops[n]? with
  | some o => o.dst == some t
  | none => false

theorem updt_some {t n : Nat} {o : Oper} (ho : ops[n]? = some o) : updt ops t n = true ↔ o.dst = some t := by
  unfold updt; rw [ho]; simp

def envS (ops : Array Oper) (fs : Nat → Fr) (vl : Nat → AV) (S : Nat → Bool) (t : Nat) : Option AV := lastS S (updt ops t) (fun n => some (vl n)) ((fs 0).env.get t) ops.size

theorem Run.textT (h : Run C K ops s s' f f' st fs kp vl) (t : Nat) : ∀ n, n < ops.size → (fs (n + 1)).env.get t = match updt ops t n with | true => some (vl n) | false => (fs n).env.get t := by
  intro n hn
  have ho := Array.getElem?_eq_getElem hn
  have hp := (put_some (h.step n ops[n] ho).1).2.1 t
  rw [hp]
  cases hu : updt ops t n with
  | true => rw [if_pos ((updt_some ho).1 hu)]
  | false =>
    rw [if_neg]
    intro hh
    rw [(updt_some ho).2 hh] at hu; cases hu

theorem apartD_spec {x y : Oper} (h : apartD ops x y = true) : (∀ d, x.dst = some d → d ∉ looksAtD ops y) ∧ (∀ d, x.dst = some d → y.dst ≠ some d) ∧ (∀ d, y.dst = some d → d ∉ looksAtD ops x) := by
  unfold apartD at h
  simp only [Bool.and_eq_true] at h
  obtain ⟨h1, h2⟩ := h
  refine ⟨fun d hd hm => ?_, fun d hd he => ?_, fun d hd hm => ?_⟩
  · rw [hd] at h1
    simp only [Bool.and_eq_true, Bool.not_eq_true'] at h1
    rw [memN_iff.2 hm] at h1; exact absurd h1.1 (by simp)
  · rw [hd, he] at h1
    simp only [Bool.and_eq_true, Bool.not_eq_true'] at h1
    rw [Nat.beq_refl] at h1; exact absurd h1.2 (by simp)
  · rw [hd] at h2
    simp only [Bool.not_eq_true'] at h2
    rw [memN_iff.2 hm] at h2; cases h2

theorem Run.looks (h : Run C K ops s s' f f' st fs kp vl) {S : Nat → Bool} (hS : Closed ops S) {i : Nat} {o : Oper} (ho : ops[i]? = some o) (hSi : S i = false) (hbef : ∀ j, Nat.testBit (bitsOf ops i) j = true → S j = true) {t : Nat} (ht : t ∈ looksAtD ops o) :
    envS ops fs vl S t = (fs i).env.get t := by
  have hi := (Array.getElem?_eq_some_iff.1 ho).1
  refine lastS_agree (T := fun n => (fs n).env.get t) (by omega) (h.textT t) ?_ ?_
  · intro n hn hu
    cases hb : Nat.testBit (bitsOf ops i) n with
    | true => exact hbef n hb
    | false =>
      have hn' := Array.getElem?_eq_getElem (show n < ops.size by omega)
      obtain ⟨a, _⟩ := h.free hn' ho hn hb
      exact absurd ht ((apartD_spec a).1 t ((updt_some hn').1 hu))
  · intro n h1 h2 hs
    have hne : n ≠ i := by rintro rfl; rw [hSi] at hs; cases hs
    have hb : Nat.testBit (bitsOf ops n) i = false := by
      cases hb : Nat.testBit (bitsOf ops n) i with
      | false => rfl
      | true => rw [hS n h2 hs i hb] at hSi; cases hSi
    have hn' := Array.getElem?_eq_getElem h2
    obtain ⟨a, _⟩ := h.free ho hn' (by omega) hb
    cases hu : updt ops t n with
    | false => rfl
    | true => exact absurd ht ((apartD_spec a).2.2 t ((updt_some hn').1 hu))

theorem Run.ranT (h : Run C K ops s s' f f' st fs kp vl) {S S' : Nat → Bool} (hS : Closed ops S) {i : Nat} {o : Oper} (ho : ops[i]? = some o) (hSi : S i = false) (hS' : ∀ n, n ≠ i → S' n = S n) (hSi' : S' i = true) (t : Nat) :
    envS ops fs vl S' t = if o.dst = some t then some (vl i) else envS ops fs vl S t := by
  have hi := (Array.getElem?_eq_some_iff.1 ho).1
  by_cases hd : o.dst = some t
  · rw [if_pos hd]
    refine lastS_put hi hS' hSi' ((updt_some ho).2 hd) ?_
    intro n hlt hn hs
    have hb : Nat.testBit (bitsOf ops n) i = false := by
      cases hb : Nat.testBit (bitsOf ops n) i with
      | false => rfl
      | true => rw [hS n hn hs i hb] at hSi; cases hSi
    have hn' := Array.getElem?_eq_getElem hn
    obtain ⟨a, _⟩ := h.free ho hn' hlt hb
    cases hu : updt ops t n with
    | false => rfl
    | true => exact absurd ((updt_some hn').1 hu) ((apartD_spec a).2.1 t hd)
  · rw [if_neg hd]
    refine lastS_skip hS' ?_
    cases hu : updt ops t i with
    | false => rfl
    | true => exact absurd ((updt_some ho).1 hu) hd

end
end Pd
