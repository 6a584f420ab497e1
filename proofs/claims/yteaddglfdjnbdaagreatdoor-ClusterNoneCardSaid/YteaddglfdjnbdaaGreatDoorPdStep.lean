/-
  One operation in a region, in the machine.
-/
import Derived.Test.YteaddglfdjnbdaaGreatDoorPdFr
set_option linter.unusedVariables false
set_option linter.unusedSimpArgs false
namespace Pd
open Go

variable {P : Program} {C : Ctx} {base : World}

/-! ### What is kept -/

structure Keeps (s s' : St) : Prop where
  ctr : s.ctr ≤ s'.ctr
  base : s'.base = s.base
  bc : s'.base ≤ s'.ctr
  heap : ∀ id, s'.ctr ≤ id → s'.heap.get id = s.heap.get id

theorem Le.refl {s : St} (h : s.base ≤ s.ctr) : Le s s := ⟨rfl, rfl, rfl, h, InvLe.refl _, fun _ _ _ hv => hv, fun _ _ _ => rfl⟩

theorem Mono.keeps {α : Type} {m : DM α} (hm : Mono m) {s s' : St} {a : α} (h : m s = some (a, s')) (hb : s.base ≤ s.ctr) : Keeps s s' := by
  obtain ⟨k', hk, hp⟩ := hm s s (Le.refl hb) a s' h
  obtain ⟨l, h1, h2, h3, h4, h5⟩ := hp.log
  refine ⟨hp.ctr, hp.base, by rw [hp.base]; exact Nat.le_trans hb hp.ctr, fun id hid => ?_⟩
  apply lvO_ext
  intro c
  have ht : tch l ⟨id, c⟩ = false := tch_above (n := s.base) h3 (Nat.le_trans hb (Nat.le_trans hp.ctr hid))
  exact ((h5 ⟨id, c⟩ (.inr hid)).2 ht).1

theorem Keeps.refl {s : St} (h : s.base ≤ s.ctr) : Keeps s s := ⟨Nat.le_refl _, rfl, h, fun _ _ => rfl⟩
theorem Keeps.trans {s s1 s2 : St} (h : Keeps s s1) (k : Keeps s1 s2) : Keeps s s2 :=
  ⟨Nat.le_trans h.ctr k.ctr, k.base.trans h.base, k.bc, fun id hid => (k.heap id hid).trans (h.heap id (Nat.le_trans k.ctr hid))⟩

theorem Fresh.fst {μ : Mu} {g : Nat → Option AObj} {lo mi hi : Nat} (h : Fresh μ g lo hi) (hm : mi ≤ hi) : Fresh μ g lo mi := fun id h1 h2 => h id h1 (by omega)
theorem Fresh.snd {μ ν : Mu} {s s1 : St} {hi : Nat} (h : Fresh μ s.heap.get s.ctr hi) (hx : Ext' μ ν s.ctr s1.ctr) (hk : Keeps s s1) : Fresh ν s1.heap.get s1.ctr hi := fun id h1 h2 => by
  obtain ⟨a, b⟩ := h id (Nat.le_trans hk.ctr h1) h2
  refine ⟨?_, by rw [hk.heap id h1]; exact b⟩
  by_cases e : ν id = μ id
  · rw [e]; exact a
  · have := hx.out id e; omega

/-- The packages' variables. -/
def GlOk (C : Ctx) (μ : Mu) : Prop := ∀ g, g < C.gl → ∃ c, μ g = some ⟨g, 0, c⟩
theorem GlOk.mono {μ ν : Mu} (h : MuLe μ ν) (hg : GlOk C μ) : GlOk C ν := fun g hl => let ⟨c, hc⟩ := hg g hl; ⟨c, h g _ hc⟩

/-! ### What recover finds -/

def setRc (cs : List Frame) (x : Value) : Option (AV × Bool) → List Frame
  | none => cs
  | some (_, r) => match cs with
    | [] => []
    | c :: rest => { c with mode := .panicking [{ v := x, recovered := r }] } :: rest

def RcOk (μ : Mu) (kind : CallKind) (cs : List Frame) (x : Value) : Option (AV × Bool) → Prop
  | none => kind = .normal ∨ (kind = .deferred ∧ ∃ c rest, cs = c :: rest ∧ c.mode = .returning)
  | some (v, _) => kind = .deferred ∧ (∃ c rest, cs = c :: rest) ∧ VR μ v x

def RcLe : Option (AV × Bool) → Option (AV × Bool) → Prop
  | none, r => r = none
  | some (v, _), r => ∃ b, r = some (v, b)

theorem RcLe.refl : ∀ (r : Option (AV × Bool)), RcLe r r
  | none => rfl
  | some (_, b) => ⟨b, rfl⟩
theorem RcLe.of_eq {r r' : Option (AV × Bool)} (h : r' = r) : RcLe r r' := by subst h; exact RcLe.refl _
theorem RcLe.trans : ∀ {a b c : Option (AV × Bool)}, RcLe a b → RcLe b c → RcLe a c
  | none, b, c, h, k => by simp only [RcLe] at h; subst h; exact k
  | some (v, x), b, c, ⟨y, h⟩, k => by subst h; exact k
theorem RcOk.step {μ ν : Mu} {kind : CallKind} {cs : List Frame} {x : Value} (hm : MuLe μ ν) : ∀ {r r' : Option (AV × Bool)}, RcLe r r' → RcOk μ kind cs x r → RcOk ν kind cs x r'
  | none, r', h, k => by simp only [RcLe] at h; subst h; exact k
  | some (v, x), r', ⟨y, h⟩, ⟨a, b, c⟩ => by subst h; exact ⟨a, b, VR.mono hm _ _ c⟩

/-! ### Calls -/

/-- How a call's frame ends. -/
def Left (P : Program) (ν : Mu) (fr : Frame) (w' : World) (kind : CallKind) : Res → Prop
  | .ret a => fr.mode = .returning ∧ fr.defers = [] ∧ fr.kind = kind ∧ ∃ fn y, P.funcs[fr.fn]? = some fn ∧ (results fn fr.tmps).run P w' = .ok y w' ∧ VR ν a y
  | .pan a => fr.defers = [] ∧ fr.kind = kind ∧ (∃ fn, P.funcs[fr.fn]? = some fn) ∧ ∃ y, fr.mode = .panicking [{ v := y, recovered := false }] ∧ VR ν a y

/-- What a call of a function comes to. -/
def FnOut (P : Program) (base : World) (μ : Mu) (s s' : St) (w : World) (f : FuncId) (vs : Array Value) (kind : CallKind) (cs : List Frame) (x : Value) (r : Res) : Prop :=
  ∃ ν w', Rep base ν s'.heap.get w' ∧ Ext' μ ν s.ctr s'.ctr ∧ RcLe s.rc s'.rc ∧
    ((∃ a y, r = .ret a ∧ VR ν a y ∧ s'.rc = s.rc ∧ (callFunc f vs).run P w = .ok (.value y) w') ∨
     ((∀ w, (callFunc f vs).run P w = .ok (.enter f vs) w) ∧ ∃ fr, Steps P (lone (Frame.enter P f vs kind) (setRc cs x s.rc) w) (lone fr (setRc cs x s'.rc) w') ∧ fr.fn = f ∧ Left P ν fr w' kind r))

/-- What a round of a loop comes to. -/
def YieldOut (P : Program) (base : World) (μ : Mu) (s s' : St) (w : World) (l : Nat) (vs : Array Value) (r : Res) (c : Frame) (cs : List Frame) : Prop :=
  ∃ ν w' i a y, Rep base ν s'.heap.get w' ∧ Ext' μ ν s.ctr s'.ctr ∧ r = .ret a ∧ VR ν a y ∧ μ l = some i ∧
    ∃ f tmps assign body, (Instr.yield i.blk vs).run P w = .ok (.round i.blk f tmps assign body) w ∧
      Steps P (lone (Frame.round i.blk f tmps assign body .normal) (c :: cs) w) (lone (c.finish y) cs w')

/-- How code calls. -/
structure KOk (P : Program) (C : Ctx) (base : World) (K : CallFn) : Prop where
  mono : ∀ c a, Mono (K c a)
  fn : ∀ f args s r s', K (.fn f) args s = some (r, s') → s.base ≤ s.ctr → s'.rc = s.rc ∧
    ∀ μ w (vs : Array Value), Rep base μ s.heap.get w → GlOk C μ → Fresh μ s.heap.get s.ctr s'.ctr → VRs μ args vs.toList → ∀ cs, FnOut P base μ { s with rc := none } { s' with rc := none } w f vs .normal cs undef r
  yield : ∀ l args s r s', K (.yield l) args s = some (r, s') → s.base ≤ s.ctr → s'.rc = s.rc ∧
    ∀ μ w (vs : Array Value), Rep base μ s.heap.get w → GlOk C μ → Fresh μ s.heap.get s.ctr s'.ctr → VRs μ args vs.toList → ∀ c cs, YieldOut P base μ s s' w l vs r c cs

section
variable {b : Frame} {a : Act} {k : List Item} {cs : List Frame} {w : World} {ops : Array Oper}

theorem apply_value {m : Sem Next} {fr : Frame} {y : Value} {w' : World} (h : m.run P w = .ok (.value y) w') :
    (stepG.apply P true fr cs none m w).bare = .go { frame := fr.finish y, callers := cs, status := .running, dying := none } w' := by
  simp [stepG.apply, h]
theorem apply_skip {m : Sem Next} {fr : Frame} {w' : World} (h : m.run P w = .ok .skip w') :
    (stepG.apply P true fr cs none m w).bare = .go { frame := fr.finish undef, callers := cs, status := .running, dying := none } w' := by
  simp [stepG.apply, h]
theorem apply_defer {m : Sem Next} {fr : Frame} {d : Deferred} {w' : World} (h : m.run P w = .ok (.defer d) w') :
    (stepG.apply P true fr cs none m w).bare = .go { frame := { fr with defers := d :: fr.defers }.finish undef, callers := cs, status := .running, dying := none } w' := by
  simp [stepG.apply, h]
theorem apply_panic {m : Sem Next} {fr : Frame} {y : Value} {w' : World} (h : m.run P w = .halt (.panic y) w') :
    (stepG.apply P true fr cs none m w).bare = .go { frame := fr.raise [{ v := y, recovered := false }], callers := cs, status := .running, dying := none } w' := by
  simp [stepG.apply, h]
theorem apply_enter {m : Sem Next} {fr : Frame} {f : FuncId} {args : Array Value} {w' : World} (h : m.run P w = .ok (.enter f args) w') (ht : ∀ d r s k, fr.todo ≠ .call d true r s :: k) :
    (stepG.apply P true fr cs none m w).bare = .go { frame := Frame.enter P f args .normal, callers := fr :: cs, status := .running, dying := none } w' := by
  simp only [stepG.apply, Sem.runT_eq, h, if_true, GStep.bare_after, GStep.bare_go]
theorem apply_round {m : Sem Next} {fr : Frame} {l : Nat} {f : FuncId} {tmps : Array Value} {x y : Code} {w' : World} (h : m.run P w = .ok (.round l f tmps x y) w') :
    (stepG.apply P true fr cs none m w).bare = .go { frame := Frame.round l f tmps x y .normal, callers := fr :: cs, status := .running, dying := none } w' := by
  simp [stepG.apply, h]
theorem apply_recover {m : Sem Next} {fr : Frame} {w' : World} (h : m.run P w = .ok .recover w') (hr : fr.roundOf = none) :
    (stepG.apply P true fr cs none m w).bare = (match tryRecover fr cs with
      | some (v, callers) => .go { frame := fr.finish v, callers, status := .running, dying := none } w'
      | none => .go { frame := fr.finish .nilIface, callers := cs, status := .running, dying := none } w') := by
  simp only [stepG.apply, Sem.runT_eq, h, if_true, GStep.bare_after, hr]
  cases tryRecover fr cs with
  | none => rfl
  | some p => rfl

/-- Leaving a call, with a value. -/
theorem step_left_ret {fr c : Frame} {cs : List Frame} {w : World} {fn : Func} {v : Value} (hm : fr.mode = .returning) (hd : fr.defers = []) (hk : fr.kind = .normal) (hf : P.funcs[fr.fn]? = some fn) (hr : (results fn fr.tmps).run P w = .ok v w) :
    step P (lone fr (c :: cs) w) = .next (lone (c.finish v) cs w) :=
  step_lone_go (by simp [stepG, unwind, doReturn, hm, hd, hk, hf, hr])

theorem step_left_pan {fr c : Frame} {cs : List Frame} {w : World} {fn : Func} {chain : List PanicEntry} (hm : fr.mode = .panicking chain) (hd : fr.defers = []) (hf : P.funcs[fr.fn]? = some fn) :
    step P (lone fr (c :: cs) w) = .next (lone (c.raise chain) cs w) :=
  step_lone_go (by simp [stepG, unwind, Frame.catches, hm, hd, hf])
end

/-- What an operation in a region comes to. -/
def OpStep (P : Program) (base : World) (μ : Mu) (s s' : St) (m : Machine) (b : Frame) (a : Act) (o : Oper) (here there : List Item) (cs : List Frame) (x : Value) (r : OpRes) : Prop :=
  ∃ ν w', Rep base ν s'.heap.get w' ∧ Ext' μ ν s.ctr s'.ctr ∧ RcLe s.rc s'.rc ∧
    match r with
    | .val v => ∃ y, VR ν v y ∧ Steps P m (lone (b.atR (a.put o.dst y) there) (setRc cs x s'.rc) w')
    | .pan v => ∃ y, VR ν v y ∧ Steps P m (lone { b.atR a here with mode := .panicking [{ v := y, recovered := false }] } (setRc cs x s'.rc) w')
    | .defer d => ∃ e, DefR ν d e ∧ Steps P m (lone (b.atR ({ a with defers := e :: a.defers }.put o.dst undef) there) (setRc cs x s'.rc) w')

/-- How a frame goes on behind a call. -/
def FnEnd (P : Program) (ν : Mu) (m : Machine) (c : Frame) (cs : List Frame) (w' : World) : Res → Prop
  | .ret a => ∃ y, VR ν a y ∧ Steps P m (lone (c.finish y) cs w')
  | .pan a => ∃ y, VR ν a y ∧ Steps P m (lone (c.raise [{ v := y, recovered := false }]) cs w')

theorem KOk.of_fn {K : CallFn} (hK : KOk P C base K) {f : Nat} {args : List AV} {s s' : St} {r : Res} (h : K (.fn f) args s = some (r, s')) (hb : s.base ≤ s.ctr) {μ : Mu} {w : World} {vs : Array Value} (hR : Rep base μ s.heap.get w) (hg : GlOk C μ)
    (hF : Fresh μ s.heap.get s.ctr s'.ctr) (hv : VRs μ args vs.toList) :
    s'.rc = s.rc ∧ ∀ (c0 : Frame) (w0 : World) (c : Frame) (cs : List Frame) (m : Sem Next), (∀ w, m.run P w = (callFunc f vs).run P w) → (∀ d r s k, c.todo ≠ .call d true r s :: k) →
      (stepG P true { frame := c0, callers := cs, status := .running, dying := none } w0).bare = (stepG.apply P true c cs none m w).bare →
      ∃ ν w', Rep base ν s'.heap.get w' ∧ Ext' μ ν s.ctr s'.ctr ∧ FnEnd P ν (lone c0 cs w0) c cs w' r := by
  obtain ⟨hrc, hh⟩ := hK.fn f args s r s' h hb
  refine ⟨hrc, ?_⟩
  intro c0 w0 c cs m hm ht hst
  obtain ⟨ν, w', h1, h2, h3, h4⟩ := hh μ w vs hR hg hF hv (c :: cs)
  refine ⟨ν, w', h1, h2, ?_⟩
  rcases h4 with ⟨a, y, rfl, hy, _, hrun⟩ | ⟨hrun, fr, hsteps, _, hleft⟩
  · exact ⟨y, hy, .one (step_lone_go (by rw [hst]; exact apply_value (by rw [hm]; exact hrun)))⟩
  · have hen : step P (lone c0 cs w0) = .next (lone (Frame.enter P f vs .normal) (c :: cs) w) := step_lone_go (by rw [hst]; exact apply_enter (by rw [hm]; exact hrun w) ht)
    have hs : Steps P (lone (Frame.enter P f vs .normal) (c :: cs) w) (lone fr (c :: cs) w') := hsteps
    cases r with
    | ret a =>
      obtain ⟨l1, l2, l3, fn, y, l4, l5, l6⟩ := hleft
      exact ⟨y, l6, .head hen (hs.trans (.one (step_left_ret l1 l2 l3 l4 l5)))⟩
    | pan a =>
      obtain ⟨l1, l2, ⟨fn, l3⟩, y, l4, l5⟩ := hleft
      exact ⟨y, l5, .head hen (hs.trans (.one (step_left_pan l4 l1 l3)))⟩

theorem KOk.of_yield {K : CallFn} (hK : KOk P C base K) {l : Nat} {args : List AV} {s s' : St} {r : Res} (h : K (.yield l) args s = some (r, s')) (hb : s.base ≤ s.ctr) {μ : Mu} {w : World} {vs : Array Value} (hR : Rep base μ s.heap.get w) (hg : GlOk C μ)
    (hF : Fresh μ s.heap.get s.ctr s'.ctr) (hv : VRs μ args vs.toList) {i : Info} (hi : μ l = some i) :
    s'.rc = s.rc ∧ ∀ (c : Frame) (cs : List Frame) (m : Sem Next), (m.run P w = (Instr.yield i.blk vs).run P w) →
      stepG P true { frame := c, callers := cs, status := .running, dying := none } w = stepG.apply P true c cs none m w →
      ∃ ν w' a, r = .ret a ∧ Rep base ν s'.heap.get w' ∧ Ext' μ ν s.ctr s'.ctr ∧ ∃ y, VR ν a y ∧ Steps P (lone c cs w) (lone (c.finish y) cs w') := by
  obtain ⟨hrc, hh⟩ := hK.yield l args s r s' h hb
  refine ⟨hrc, ?_⟩
  intro c cs m hm hst
  obtain ⟨ν, w', i', a, y, h1, h2, h3, h4, h5, f, tmps, assign, body, h6, h7⟩ := hh μ w vs hR hg hF hv c cs
  rw [hi] at h5; cases h5
  refine ⟨ν, w', a, h3, h1, h2, y, h4, .head (step_lone_go (by rw [hst]; exact apply_round (by rw [hm]; exact h6))) h7⟩

theorem op_step (hC : TypesOk P C) {K : CallFn} (hK : KOk P C base K) {fr : Fr} {b : Frame} {a : Act} {o : Oper} {r : OpRes} {μ : Mu} {s s' : St} {w : World} (h : opD C K fr o s = some (r, s')) (hb : s.base ≤ s.ctr)
    (hR : Rep base μ s.heap.get w) (hg : GlOk C μ) (hf : FrR μ b fr a) (hF : Fresh μ s.heap.get s.ctr s'.ctr) {cs : List Frame} {x : Value} (hrc : RcOk μ b.kind cs x s.rc) {ops : Array Oper} {i : Nat} {rest : List Nat} {k : List Item}
    (ho : ops[i]? = some o) (hw : Region.wanted o (yielded ops a.tmps) = true) :
    OpStep P base μ s s' (lone (b.atR a (.inRegion ops (i :: rest) :: k)) (setRc cs x s.rc) w) b a o (.inRegion ops (i :: rest) :: k) (.inRegion ops rest :: k) cs x r := by
  have hst := stepGR_op (P := P) (b := b) (a := a) (k := k) (cs := setRc cs x s.rc) (w := w) (rest := rest) ho hw
  have hfin : ∀ v, (b.atR a (.inRegion ops (i :: rest) :: k)).finish v = b.atR (a.put o.dst v) (.inRegion ops rest :: k) := by
    intro v; rw [Frame.finish_atR, ho]; rfl
  have hnc : ∀ d r s k', (b.atR a (.inRegion ops (i :: rest) :: k)).todo ≠ .call d true r s :: k' := by intro d r s k' hh; simp [Frame.atR] at hh
  by_cases hq : quietOp o.op = true
  · obtain ⟨ν, w', h1, h2, h3, h4⟩ := exec_sim hC hR hf hq h hF
    refine ⟨ν, w', h1, h2, RcLe.of_eq h3, ?_⟩
    rw [h3]
    have hsem : o.semAt b.roundOf a.eval = execOp a.eval o := by
      cases hd : o.op with
      | defer c =>
        have : fr.roundOf = none := by
          unfold opD at h; rw [hd] at h
          simp only [DM.guard_bind] at h
          have := h.1
          simp only [inRound, Bool.not_eq_true', Option.isSome_eq_false_iff, Option.isNone_iff_eq_none] at this
          exact this
        have hr := hf.round
        rw [this] at hr
        simp only [RoundR] at hr
        rw [hr, Oper.semAt_none]
      | _ => exact Oper.semAt_eq _ _ _ (fun c hc => by rw [hd] at hc; cases hc)
    rw [hsem] at hst
    cases r with
    | val v =>
      rcases h4 with ⟨y, hy, hv⟩ | ⟨rfl, hs⟩
      · exact ⟨y, hv, .one (by rw [← hfin]; exact step_lone_go (by rw [hst]; exact apply_value hy))⟩
      · exact ⟨undef, undef_rel ν, .one (by rw [← hfin]; exact step_lone_go (by rw [hst]; exact apply_skip hs))⟩
    | pan v =>
      obtain ⟨y, hy, hv⟩ := h4
      exact ⟨y, hv, .one (by rw [← Frame.raise_atR]; exact step_lone_go (by rw [hst]; exact apply_panic hy))⟩
    | defer d =>
      obtain ⟨e, he, hd⟩ := h4
      refine ⟨e, hd, .one (step_lone_go ?_)⟩
      rw [hst, apply_defer he]
      have := Frame.finish_atR b { a with defers := e :: a.defers } ops i rest k undef
      rw [ho] at this
      exact congrArg (fun fr => GStep.go { frame := fr, callers := setRc cs x s.rc, status := .running, dying := none } w') this
  · have hsem : o.semAt b.roundOf a.eval = execOp a.eval o := Oper.semAt_eq _ _ _ (fun c hc => by rw [hc] at hq; exact hq rfl)
    rw [hsem] at hst
    obtain ⟨dst, op, type, pos, after, guard⟩ := o
    simp only at hq
    cases op <;> try exact (hq rfl).elim
    rename_i c
    unfold opD at h
    simp only [callOpD] at h
    obtain ⟨callee, args, tys⟩ := c
    cases callee with
    | invoke rv m => exact (DM.fail_some h).elim
    | builtin bi =>
      have hbi : bi = .recover := by
        cases bi <;> first | rfl | exact (hq rfl).elim
      subst hbi
      simp only [DM.guard_bind, DM.lift_bind] at h
      obtain ⟨hgd, as, has, h⟩ := h
      simp only [builtinD] at h
      replace h := opVal_some h
      obtain ⟨v, rfl, h⟩ := h
      simp only [DM.guard_bind] at h
      obtain ⟨hem, h⟩ := h
      have hround : fr.roundOf = none := by simpa [isRecover, inRound] using hgd
      have hbr := hf.round
      rw [hround] at hbr
      simp only [RoundR] at hbr
      have hrun : (execOp a.eval { dst, op := .call { callee := .builtin .recover, args, argTypes := tys }, type, pos, after, guard }).run P w = .ok .recover w := by
        simp [execOp, resolve, invoke, builtin]
      have hap := apply_recover (P := P) (cs := setRc cs x s.rc) hrun (fr := b.atR a (.inRegion ops (i :: rest) :: k)) (by simp [Frame.atR, hbr])
      unfold recoverB at h
      cases hrcs : s.rc with
      | none =>
        rw [hrcs] at h hrc hap hst
        cases h
        have htr : tryRecover (b.atR a (.inRegion ops (i :: rest) :: k)) (setRc cs x none) = none := by
          rcases hrc with hk | ⟨hk, c, rst, rfl, hm⟩
          · simp [tryRecover, Frame.atR, hk]
          · simp [tryRecover, Frame.atR, hk, setRc, hm]
        rw [htr] at hap
        refine ⟨μ, w, hR, Ext'.refl _ _ _, by rw [hrcs]; exact RcLe.refl _, .nilIface, by simp only [VR], .one ?_⟩
        rw [hrcs, ← hfin]
        exact step_lone_go (by rw [hst]; exact hap)
      | some p =>
        obtain ⟨v', q⟩ := p
        rw [hrcs] at h hrc hap hst
        cases q with
        | true => cases h
        | false =>
          simp only [Option.some.injEq, Prod.mk.injEq] at h
          obtain ⟨rfl, rfl⟩ := h
          obtain ⟨hk, ⟨c, rst, rfl⟩, hvx⟩ := hrc
          have htr : tryRecover (b.atR a (.inRegion ops (i :: rest) :: k)) (setRc (c :: rst) x (some (v', false))) = some (x, setRc (c :: rst) x (some (v', true))) := by
            simp [tryRecover, Frame.atR, hk, setRc]
          rw [htr] at hap
          refine ⟨μ, w, hR, Ext'.refl _ _ _, by rw [hrcs]; exact ⟨true, rfl⟩, x, hvx, .one ?_⟩
          rw [← hfin]
          exact step_lone_go (by rw [hst]; exact hap)
    | value fo =>
      simp only [DM.lift_bind] at h
      obtain ⟨⟨tc, targs⟩, ht, h⟩ := h
      obtain ⟨r', s1, h1, h2⟩ := DM.bind_some h
      obtain ⟨rfl, rfl⟩ := DM.pure_some h2
      unfold targetD at ht
      simp only at ht
      split at ht
      · rename_i g first captured as hfo has
        cases ht
        have e1 := hf.ev hfo
        simp only [VR] at e1
        obtain ⟨xf, xc, e, v1, v2⟩ := e1
        have hvs : VRs μ (first ++ (as ++ captured)) (xf ++ args.map a.eval ++ xc).toList := by
          simp only [Array.toList_append, Array.toList_map, List.append_assoc]
          exact v1.append ((hf.evs has).append v2)
        obtain ⟨hrc', hh⟩ := hK.of_fn h1 hb hR hg hF hvs
        have hrun : ∀ w, (execOp a.eval { dst, op := .call { callee := .value fo, args, argTypes := tys }, type, pos, after, guard }).run P w = (callFunc g (xf ++ args.map a.eval ++ xc)).run P w := by
          intro w; simp [execOp, resolve, invoke, Deferred.ofValue, e]
        obtain ⟨ν, w', q1, q2, q3⟩ := hh _ _ _ _ _ hrun hnc (congrArg GStep.bare hst)
        refine ⟨ν, w', q1, q2, RcLe.of_eq hrc', ?_⟩
        rw [hrc']
        cases r' with
        | ret v => obtain ⟨y, hy, hs⟩ := q3; exact ⟨y, hy, by rw [← hfin]; exact hs⟩
        | pan v => obtain ⟨y, hy, hs⟩ := q3; exact ⟨y, hy, by rw [← Frame.raise_atR]; exact hs⟩
      · rename_i l as0 hfo has
        cases ht
        have e1 := hf.ev hfo
        simp only [VR] at e1
        obtain ⟨il, hil, e⟩ := e1
        have hvs : VRs μ targs (args.map a.eval).toList := by simp only [Array.toList_map]; exact hf.evs has
        obtain ⟨hrc', hh⟩ := hK.of_yield h1 hb hR hg hF hvs hil
        have hrun : (execOp a.eval { dst, op := .call { callee := .value fo, args, argTypes := tys }, type, pos, after, guard }).run P w = (Instr.yield il.blk (args.map a.eval)).run P w := by
          simp [execOp, resolve, invoke, Deferred.ofValue, e]
        obtain ⟨ν, w', v, rfl, q1, q2, y, hy, hs⟩ := hh _ _ _ hrun hst
        refine ⟨ν, w', q1, q2, RcLe.of_eq hrc', ?_⟩
        rw [hrc']
        exact ⟨y, hy, by rw [← hfin]; exact hs⟩
      · cases ht

end Pd
