/-
  Frames: what the evaluator's frame says of the machine's; an operation that runs no other function.
-/
import Derived.Test.YteaddglfdjnbdaaGreatDoorPdOps11
set_option linter.unusedVariables false
set_option linter.unusedSimpArgs false
namespace Pd
open Go

variable {P : Program} {C : Ctx} {base : World}

def DefR (μ : Mu) : AD → Deferred → Prop
  | .mark id, d => ∃ i, μ id = some i ∧ d = { target := .collected i.blk, args := #[] }
  | .call f args, d => ∃ cap xs, d = { target := .fn (.func f) cap, args := xs } ∧ VRs μ args (xs ++ cap).toList

def DefsR (μ : Mu) : List AD → List Deferred → Prop
  | [], l => l = []
  | d :: ds, l => ∃ e es, l = e :: es ∧ DefR μ d e ∧ DefsR μ ds es

def RoundR (μ : Mu) : Option Nat → Option Nat → Prop
  | none, r => r = none
  | some l, r => ∃ i, μ l = some i ∧ r = some i.blk

structure FrR (μ : Mu) (b : Frame) (fr : Fr) (a : Act) : Prop where
  fn : b.fn = fr.fn
  env : EnvR μ fr.env fr.n a.tmps
  defs : DefsR μ fr.defers a.defers
  round : RoundR μ fr.roundOf b.roundOf
  gl : ∀ g, g < fr.gl → ∃ c, μ g = some ⟨g, 0, c⟩

theorem DefR.mono {μ ν : Mu} (h : MuLe μ ν) : ∀ {d : AD} {e : Deferred}, DefR μ d e → DefR ν d e
  | .mark id, e, ⟨i, hi, he⟩ => ⟨i, h id i hi, he⟩
  | .call f args, e, ⟨c, x, he, hx⟩ => ⟨c, x, he, VRs.mono h _ _ hx⟩
theorem DefsR.mono {μ ν : Mu} (h : MuLe μ ν) : ∀ {d : List AD} {e : List Deferred}, DefsR μ d e → DefsR ν d e
  | [], e, he => he
  | d :: ds, e, ⟨x, xs, a, b, c⟩ => ⟨x, xs, a, b.mono h, DefsR.mono h c⟩
theorem RoundR.mono {μ ν : Mu} (h : MuLe μ ν) : ∀ {l r : Option Nat}, RoundR μ l r → RoundR ν l r
  | none, r, he => he
  | some l, r, ⟨i, hi, he⟩ => ⟨i, h l i hi, he⟩
theorem FrR.mono {μ ν : Mu} {b : Frame} {fr : Fr} {a : Act} (h : MuLe μ ν) (hf : FrR μ b fr a) : FrR ν b fr a :=
  ⟨hf.fn, hf.env.mono h, hf.defs.mono h, hf.round.mono h, fun g hg => let ⟨c, hc⟩ := hf.gl g hg; ⟨c, h g _ hc⟩⟩

theorem undef_rel (μ : Mu) : VR μ undefA undef := by simp only [undefA, VR]; exact ⟨#[], rfl, rfl⟩

/-! ### Operands -/

theorem FrR.ev {μ : Mu} {b : Frame} {fr : Fr} {a : Act} (hf : FrR μ b fr a) {o : Operand} {v : AV} (h : fr.ev o = some v) : VR μ v (a.eval o) := by
  unfold Fr.ev at h
  cases o with
  | tmp t =>
    have := hf.env.2 t
    have e : a.eval (.tmp t) = (a.tmps[t]?).getD undef := by simp [Act.eval, Array.getD_eq_getD_getElem?]
    rw [e]
    simp only at h
    cases hg : fr.env.get t with
    | none => rw [hg] at h this; cases h; exact this
    | some x => rw [hg] at h this; cases h; exact this
  | const v => exact valOf_ok h μ
  | global g =>
    simp only at h
    cases hb : Nat.blt g fr.gl with
    | false => rw [hb] at h; cases h
    | true =>
      rw [hb] at h; cases h
      obtain ⟨c, hc⟩ := hf.gl g (of_blt hb)
      simp only [VR]
      exact ⟨_, hc, rfl⟩
  | func f => cases h; simp only [VR]; exact ⟨#[], #[], rfl, rfl, rfl⟩

theorem FrR.evs {μ : Mu} {b : Frame} {fr : Fr} {a : Act} (hf : FrR μ b fr a) : ∀ {os : List Operand} {vs : List AV}, fr.evs os = some vs → VRs μ vs (os.map a.eval)
  | [], vs, h => by cases h; rfl
  | o :: os, vs, h => by
    unfold Fr.evs at h
    cases h1 : fr.ev o with
    | none => rw [h1] at h; cases h
    | some v =>
      rw [h1] at h; simp only at h
      cases h2 : fr.evs os with
      | none => rw [h2] at h; cases h
      | some us => rw [h2] at h; cases h; exact ⟨_, _, rfl, hf.ev h1, hf.evs h2⟩

theorem FrR.evParts {μ : Mu} {b : Frame} {fr : Fr} {a : Act} (hf : FrR μ b fr a) : ∀ {ps : List (Nat × Operand)} {vs : List (Nat × AV)}, fr.evParts ps = some vs → PartsR μ vs (ps.map fun p => (p.1, a.eval p.2))
  | [], vs, h => by cases h; exact ⟨rfl, rfl⟩
  | (i, o) :: os, vs, h => by
    unfold Fr.evParts at h
    cases h1 : fr.ev o with
    | none => rw [h1] at h; cases h
    | some v =>
      rw [h1] at h; simp only at h
      cases h2 : fr.evParts os with
      | none => rw [h2] at h; cases h
      | some us =>
        rw [h2] at h; cases h
        obtain ⟨x, y⟩ := hf.evParts h2
        exact ⟨by simp only [List.map_cons]; rw [x], ⟨_, _, rfl, hf.ev h1, y⟩⟩

theorem FrR.evOpt {μ : Mu} {b : Frame} {fr : Fr} {a : Act} (hf : FrR μ b fr a) {o : Option Operand} {v : Option AV} (h : fr.evOpt o = some v) : OptR μ v (o.map a.eval) := by
  unfold Fr.evOpt at h
  cases o with
  | none => cases h; trivial
  | some o =>
    simp only at h
    cases h1 : fr.ev o with
    | none => rw [h1] at h; cases h
    | some v => rw [h1] at h; cases h; exact hf.ev h1

/-- A temporary is set. -/
theorem FrR.put {μ : Mu} {b : Frame} {fr fr' : Fr} {a : Act} (hf : FrR μ b fr a) {dst : Option Nat} {v : AV} {x : Value} (h : fr.put dst v = some fr') (hv : VR μ v x) : FrR μ b fr' (a.put dst x) := by
  unfold Fr.put at h
  simp only [Fr.setEnv_eq] at h
  cases dst with
  | none => cases h; exact hf
  | some d =>
    simp only at h
    cases hb : Nat.blt d fr.n with
    | false => rw [hb] at h; cases h
    | true =>
      rw [hb] at h; cases h
      have hd := of_blt hb
      refine ⟨hf.fn, ⟨by simp [Act.put, hf.env.1], fun t => ?_⟩, hf.defs, hf.round, hf.gl⟩
      simp only [Act.put, Tr.get_set, Array.getElem?_setIfInBounds]
      by_cases ht : t = d
      · subst ht
        have := hf.env.1
        simp [this, hd, hv]
      · rw [if_neg ht, if_neg (Ne.symm ht)]
        exact hf.env.2 t

/-! ### Operations -/

theorem opVal_some {m : DM AV} {s s' : St} {r : OpRes} (h : opVal m s = some (r, s')) : ∃ v, r = .val v ∧ m s = some (v, s') := by
  unfold opVal at h
  obtain ⟨v, s1, h1, h2⟩ := DM.bind_some h
  obtain ⟨rfl, rfl⟩ := DM.pure_some h2
  exact ⟨v, rfl, h1⟩

theorem opUnit_some {m : DM Unit} {s s' : St} {r : OpRes} (h : opUnit m s = some (r, s')) : r = .val undefA ∧ ∃ u, m s = some (u, s') := by
  unfold opUnit at h
  obtain ⟨v, s1, h1, h2⟩ := DM.bind_some h
  obtain ⟨rfl, rfl⟩ := DM.pure_some h2
  exact ⟨rfl, v, h1⟩

/-- What an operation that runs no other function does. -/
def ResR (P : Program) (μ : Mu) (m : Result Next) (w' : World) : OpRes → Prop
  | .val v => (∃ y, m = .ok (.value y) w' ∧ VR μ v y) ∨ (v = undefA ∧ m = .ok .skip w')
  | .pan v => ∃ y, m = .halt (.panic y) w' ∧ VR μ v y
  | .defer d => ∃ e, m = .ok (.defer e) w' ∧ DefR μ d e

def ExecOut (P : Program) (base : World) (μ : Mu) (s s' : St) (m : Sem Next) (w : World) (r : OpRes) : Prop :=
  ∃ ν w', Rep base ν s'.heap.get w' ∧ Ext' μ ν s.ctr s'.ctr ∧ s'.rc = s.rc ∧ ResR P ν (m.run P w) w' r

theorem ExecOut.of_out {μ : Mu} {s s' : St} {m : Sem Value} {w : World} {a : AV} (h : OpOut P base μ s s' m w a) : ExecOut P base μ s s' (do pure (.value (← m))) w (.val a) := by
  obtain ⟨ν, w', v, h1, h2, h3, h4, h5⟩ := h
  exact ⟨ν, w', h2, h3, h5, .inl ⟨v, by simp [h1], h4⟩⟩

theorem ExecOut.of_skip {μ : Mu} {s s' : St} {m : Sem Unit} {w w' : World} (h : m.run P w = .ok () w') (hR : Rep base μ s'.heap.get w') (hc : s'.rc = s.rc) : ExecOut P base μ s s' (do m; pure .skip) w (.val undefA) :=
  ⟨μ, w', hR, Ext'.refl _ _ _, hc, .inr ⟨rfl, by simp [h]⟩⟩

theorem OpOut.of_same {μ : Mu} {s : St} {m : Sem Value} {w : World} {a : AV} {v : Value} (hR : Rep base μ s.heap.get w) (h : m.run P w = .ok v w) (hv : VR μ a v) : OpOut P base μ s s m w a :=
  ⟨μ, w, v, h, hR, Ext'.refl _ _ _, hv, rfl⟩

theorem OpOut.of_keep {μ : Mu} {s s' : St} {m : Sem Value} {w w' : World} {a : AV} {v : Value} (hR : Rep base μ s'.heap.get w') (h : m.run P w = .ok v w') (hv : VR μ a v) (hc : s'.rc = s.rc) : OpOut P base μ s s' m w a :=
  ⟨μ, w', v, h, hR, Ext'.refl _ _ _, hv, hc⟩

theorem arg1_some {l : List AV} {x : AV} (h : arg1 l = some x) : l = [x] := by
  unfold arg1 at h; split at h <;> cases h; rfl
theorem arg2_some {l : List AV} {x : AV × AV} (h : arg2 l = some x) : l = [x.1, x.2] := by
  unfold arg2 at h; split at h <;> cases h; rfl
theorem hd_some {l : Array Nat} {t : Nat} (h : hd? l.toList = some t) : l[0]? = some t := by
  obtain ⟨l⟩ := l
  unfold hd? at h
  split at h
  · rename_i heq; cases h; simp at heq; simp [heq]
  · cases h
theorem tys2_some {l : Array Nat} {t : Nat × Nat} (h : tys2 l.toList = some t) : l = #[t.1, t.2] := by
  obtain ⟨l⟩ := l
  unfold tys2 at h
  split at h
  · rename_i heq; cases h; simp at heq; simp [heq]
  · cases h
theorem vrs1 {μ : Mu} {x : AV} {xs : List Value} (h : VRs μ [x] xs) : ∃ v, xs = [v] ∧ VR μ x v := by
  simp only [VRs] at h
  obtain ⟨v, vs, rfl, hv, rfl⟩ := h
  exact ⟨v, rfl, hv⟩
theorem vrs2 {μ : Mu} {x y : AV} {xs : List Value} (h : VRs μ [x, y] xs) : ∃ v u, xs = [v, u] ∧ VR μ x v ∧ VR μ y u := by
  simp only [VRs] at h
  obtain ⟨v, vs, rfl, hv, u, us, rfl, hu, rfl⟩ := h
  exact ⟨v, u, rfl, hv, hu⟩

theorem max_sim {x y r : AV} {xv yv : Value} {μ : Mu} (hx : VR μ x xv) (hy : VR μ y yv) (h : maxOf x y = some r) : ∃ v, (∀ w, (Builtin.max2 xv yv).run P w = .ok v w) ∧ VR μ r v := by
  unfold maxOf at h
  split at h
  · rename_i k a k' b
    split at h
    · cases h
      simp only [VR] at hx hy
      subst hx hy
      refine ⟨_, fun w => by simp [Builtin.max2]; rfl, ?_⟩
      simp only [VR, ilt_eq]
      by_cases hab : a < b <;> simp [hab]
    · cases h
  · cases h

theorem min_sim {x y r : AV} {xv yv : Value} {μ : Mu} (hx : VR μ x xv) (hy : VR μ y yv) (h : minOf x y = some r) : ∃ v, (∀ w, (Builtin.min2 xv yv).run P w = .ok v w) ∧ VR μ r v := by
  unfold minOf at h
  split at h
  · rename_i k a k' b
    split at h
    · cases h
      simp only [VR] at hx hy
      subst hx hy
      refine ⟨_, fun w => by simp [Builtin.min2]; rfl, ?_⟩
      simp only [VR, ilt_eq]
      by_cases hab : b < a <;> simp [hab]
    · cases h
  · cases h

/-- The functions built in, but recover. -/
theorem builtin_sim (hC : TypesOk P C) {b : Builtin} {ts : Array TypeId} {ty : TypeId} {cs : Array Bool} {args : List AV} {vs : Array Value} {r : OpRes} {μ : Mu} {s s' : St} {w : World} (hR : Rep base μ s.heap.get w) (hv : VRs μ args vs.toList)
    (hb : isRecover b = false) (h : builtinD C b ts.toList args s = some (r, s')) (hF : Fresh μ s.heap.get s.ctr s'.ctr) : ExecOut P base μ s s' (builtin b ts ty cs vs) w r := by
  obtain ⟨vs⟩ := vs
  simp only at hv
  cases b <;> simp only [builtinD] at h <;> try exact (DM.fail_some h).elim
  case append =>
    replace h := opVal_some h; obtain ⟨v, rfl, h⟩ := h
    simp only [DM.lift_bind] at h
    obtain ⟨t, ht, x, hx, h⟩ := h
    rw [arg2_some hx] at hv
    obtain ⟨v1, v2, rfl, e1, e2⟩ := vrs2 hv
    rw [tys2_some ht]
    exact .of_out (append_sim hC.toTyOk hR e1 e2 h hF)
  case cap =>
    replace h := opVal_some h; obtain ⟨v, rfl, h⟩ := h
    simp only [DM.lift_bind] at h
    obtain ⟨t, ht, x, hx, h⟩ := h
    rw [arg1_some hx] at hv
    obtain ⟨v1, rfl, e1⟩ := vrs1 hv
    exact .of_out (cap_sim hC.toTyOk (hd_some ht) hR e1 h)
  case clear =>
    replace h := opUnit_some h; obtain ⟨rfl, u, h⟩ := h
    simp only [DM.lift_bind] at h
    obtain ⟨t, ht, x, hx, h⟩ := h
    rw [arg1_some hx] at hv
    obtain ⟨v1, rfl, e1⟩ := vrs1 hv
    exact .of_out (clear_sim hC.toTyOk (hd_some ht) hR e1 h)
  case copy =>
    replace h := opVal_some h; obtain ⟨v, rfl, h⟩ := h
    simp only [DM.lift_bind] at h
    obtain ⟨t, ht, x, hx, h⟩ := h
    rw [arg2_some hx] at hv
    obtain ⟨v1, v2, rfl, e1, e2⟩ := vrs2 hv
    exact .of_out (copy_sim hC.toTyOk (hd_some ht) hR e1 e2 h)
  case delete =>
    replace h := opUnit_some h; obtain ⟨rfl, u, h⟩ := h
    simp only [DM.lift_bind] at h
    obtain ⟨t, ht, x, hx, h⟩ := h
    rw [arg2_some hx] at hv
    obtain ⟨v1, v2, rfl, e1, e2⟩ := vrs2 hv
    exact .of_out (delete_sim hC (hd_some ht) hR e1 e2 h)
  case len =>
    replace h := opVal_some h; obtain ⟨v, rfl, h⟩ := h
    simp only [DM.lift_bind] at h
    obtain ⟨t, ht, x, hx, h⟩ := h
    rw [arg1_some hx] at hv
    obtain ⟨v1, rfl, e1⟩ := vrs1 hv
    exact .of_out (len_sim hC.toTyOk (hd_some ht) hR e1 h)
  case max =>
    replace h := opVal_some h; obtain ⟨v, rfl, h⟩ := h
    simp only [DM.lift_bind] at h
    obtain ⟨x, hx, h⟩ := h
    obtain ⟨hm, rfl⟩ := DM.lift_some h
    rw [arg2_some hx] at hv
    obtain ⟨v1, v2, rfl, e1, e2⟩ := vrs2 hv
    obtain ⟨y, hy, hr⟩ := max_sim (P := P) e1 e2 hm
    exact .of_out (.of_same hR (by simp [Builtin.max_, hy]) hr)
  case min =>
    replace h := opVal_some h; obtain ⟨v, rfl, h⟩ := h
    simp only [DM.lift_bind] at h
    obtain ⟨x, hx, h⟩ := h
    obtain ⟨hm, rfl⟩ := DM.lift_some h
    rw [arg2_some hx] at hv
    obtain ⟨v1, v2, rfl, e1, e2⟩ := vrs2 hv
    obtain ⟨y, hy, hr⟩ := min_sim (P := P) e1 e2 hm
    exact .of_out (.of_same hR (by simp [Builtin.min_, hy]) hr)
  case recover => cases hb
  case unsafeSliceData =>
    replace h := opVal_some h; obtain ⟨v, rfl, h⟩ := h
    simp only [DM.lift_bind] at h
    obtain ⟨x, hx, h⟩ := h
    rw [arg1_some hx] at hv
    obtain ⟨v1, rfl, e1⟩ := vrs1 hv
    exact .of_out (sliceData_sim hR e1 h)
  case unsafeString =>
    replace h := opVal_some h; obtain ⟨v, rfl, h⟩ := h
    simp only [DM.lift_bind] at h
    obtain ⟨t, ht, x, hx, h⟩ := h
    rw [arg2_some hx] at hv
    obtain ⟨v1, v2, rfl, e1, e2⟩ := vrs2 hv
    exact .of_out (string_sim hC (hd_some ht) hR e1 e2 h)

/-- Calls of functions, and recover, aside. -/
def quietOp : Op → Bool
  | .call { callee := .builtin b, .. } => !(isRecover b)
  | .call _ => false
  | _ => true

theorem parts_toList (ps : Array (Nat × Operand)) (f : Operand → Value) : (ps.map fun (i, x) => (i, f x)).toList = ps.toList.map fun p => (p.1, f p.2) := by simp

theorem exec_sim (hC : TypesOk P C) {K : CallFn} {fr : Fr} {b : Frame} {a : Act} {o : Oper} {r : OpRes} {μ : Mu} {s s' : St} {w : World} (hR : Rep base μ s.heap.get w) (hf : FrR μ b fr a) (hq : quietOp o.op = true)
    (h : opD C K fr o s = some (r, s')) (hF : Fresh μ s.heap.get s.ctr s'.ctr) : ExecOut P base μ s s' (execOp a.eval o) w r := by
  obtain ⟨dst, op, type, pos, after, guard⟩ := o
  simp only at hq
  unfold opD at h
  unfold execOp
  cases op <;> simp only at h ⊢ <;> try exact (DM.fail_some h).elim
  case move x =>
    replace h := opVal_some h; obtain ⟨v, rfl, h⟩ := h
    obtain ⟨he, rfl⟩ := DM.lift_some h
    exact ⟨μ, w, hR, Ext'.refl _ _ _, rfl, .inl ⟨_, rfl, hf.ev he⟩⟩
  case assign x =>
    replace h := opVal_some h; obtain ⟨v, rfl, h⟩ := h
    obtain ⟨he, rfl⟩ := DM.lift_some h
    exact ⟨μ, w, hR, Ext'.refl _ _ _, rfl, .inl ⟨_, rfl, hf.ev he⟩⟩
  case pick c x y =>
    replace h := opVal_some h; obtain ⟨v, rfl, h⟩ := h
    simp only [DM.lift_bind] at h
    obtain ⟨cv, hc, h⟩ := h
    obtain ⟨hp, rfl⟩ := DM.lift_some h
    have hcv := hf.ev hc
    unfold pickD at hp
    split at hp
    · simp only [VR] at hcv
      exact ⟨μ, w, hR, Ext'.refl _ _ _, rfl, .inl ⟨_, by simp [asBool, hcv], hf.ev hp⟩⟩
    · simp only [VR] at hcv
      exact ⟨μ, w, hR, Ext'.refl _ _ _, rfl, .inl ⟨_, by simp [asBool, hcv], hf.ev hp⟩⟩
    · cases hp
  case alloc t =>
    replace h := opVal_some h; obtain ⟨v, rfl, h⟩ := h
    simp only [DM.lift_bind] at h
    obtain ⟨z, hz, h⟩ := h
    obtain ⟨id, s1, h1, h2⟩ := DM.bind_some h
    obtain ⟨rfl, rfl⟩ := DM.pure_some h2
    obtain ⟨zv, hzr, hzv⟩ := zero_ok hC.toTyOk hz
    obtain ⟨i, e1, e2, e3, e4, e5, e6, e7, e8, e9⟩ := newCells_sim (P := P) hR (hzv μ).cells h1 hF
    refine .of_out ⟨_, _, .pointer (some ⟨i.blk, 0, none⟩), ?_, e2, e3, ?_, e8⟩
    · simp only [Instr.alloc, newVar, Sem.run_bind, hzr, Result.andThen_ok, e1, Sem.run_pure]
    · simp only [VR]; subst e6; exact ⟨i, upd_self _ _ _, by rw [e4]⟩
  case box t x =>
    replace h := opVal_some h; obtain ⟨v, rfl, h⟩ := h
    simp only [DM.lift_bind] at h
    obtain ⟨z, hz, h⟩ := h
    obtain ⟨id, s1, h1, h2⟩ := DM.bind_some h
    obtain ⟨rfl, rfl⟩ := DM.pure_some h2
    obtain ⟨i, e1, e2, e3, e4, e5, e6, e7, e8, e9⟩ := newCells_sim (P := P) hR (hf.ev hz).cells h1 hF
    refine .of_out ⟨_, _, .pointer (some ⟨i.blk, 0, none⟩), ?_, e2, e3, ?_, e8⟩
    · simp only [Instr.box, newVar, Sem.run_bind, Result.andThen_ok, e1, Sem.run_pure]
    · simp only [VR]; subst e6; exact ⟨i, upd_self _ _ _, by rw [e4]⟩
  case build t ps =>
    replace h := opVal_some h; obtain ⟨v, rfl, h⟩ := h
    simp only [DM.lift_bind] at h
    obtain ⟨as, hp, h⟩ := h
    obtain ⟨hb, rfl⟩ := DM.lift_some h
    obtain ⟨v, e1, e2⟩ := build_sim hC.toTyOk (vs := ps.map fun (i, x) => (i, a.eval x)) (by rw [parts_toList]; exact hf.evParts hp) hb
    exact .of_out (.of_same hR (e1 w) e2)
  case buildSlice t n ps =>
    replace h := opVal_some h; obtain ⟨v, rfl, h⟩ := h
    simp only [DM.lift_bind] at h
    obtain ⟨as, hp, h⟩ := h
    obtain ⟨ν, w', v, e1, e2, e3, e4, e5⟩ := buildSlice_sim hC.toTyOk (vs := ps.map fun (i, x) => (i, a.eval x)) hR (by rw [parts_toList]; exact hf.evParts hp) h hF
    exact .of_out ⟨ν, w', v, e1, e2, e3, e4, e5⟩
  case insert t m k v =>
    replace h := opUnit_some h; obtain ⟨rfl, u, h⟩ := h
    simp only [DM.lift_bind] at h
    obtain ⟨m, hm, k, hk, v, hv, h⟩ := h
    obtain ⟨w', e1, e2, e3, e4⟩ := mapUpdate_sim hC hR (hf.ev hm) (hf.ev hk) (hf.ev hv) h
    exact .of_skip e1 e2 e4
  case load t x =>
    replace h := opVal_some h; obtain ⟨v, rfl, h⟩ := h
    simp only [DM.lift_bind] at h
    obtain ⟨x, hx, h⟩ := h
    obtain ⟨rfl, y, _, e1, e2⟩ := load_sim hC.toTyOk hR (hf.ev hx) h
    exact .of_out (.of_same hR e1 e2)
  case store t x v =>
    replace h := opUnit_some h; obtain ⟨rfl, u, h⟩ := h
    simp only [DM.lift_bind] at h
    obtain ⟨x, hx, v, hv, h⟩ := h
    obtain ⟨w', e1, e2, e3, e4⟩ := store_sim hC.toTyOk hR (hf.ev hx) (hf.ev hv) h
    exact .of_skip e1 e2 e4
  case nilCheck x =>
    replace h := opVal_some h; obtain ⟨v, rfl, h⟩ := h
    simp only [DM.lift_bind] at h
    obtain ⟨x, hx, h⟩ := h
    obtain ⟨hn, rfl⟩ := DM.lift_some h
    have hx := hf.ev hx
    unfold nilCheckD at hn
    split at hn <;> cases hn <;> have hx' := hx <;> simp only [VR] at hx
    · obtain ⟨i, hi, e⟩ := hx
      exact ⟨μ, w, hR, Ext'.refl _ _ _, rfl, .inl ⟨_, by rw [e]; rfl, by rw [← e]; exact hx'⟩⟩
    · obtain ⟨x1, y1, e, h1, h2⟩ := hx
      exact ⟨μ, w, hR, Ext'.refl _ _ _, rfl, .inl ⟨_, by rw [e]; rfl, by rw [← e]; exact hx'⟩⟩
    · obtain ⟨i, hi, e⟩ := hx
      exact ⟨μ, w, hR, Ext'.refl _ _ _, rfl, .inl ⟨_, by rw [e]; rfl, by rw [← e]; exact hx'⟩⟩
    · obtain ⟨i, e, h1⟩ := hx
      exact ⟨μ, w, hR, Ext'.refl _ _ _, rfl, .inl ⟨_, by rw [e]; rfl, by rw [← e]; exact hx'⟩⟩
  case binOp op t x y yt =>
    replace h := opVal_some h; obtain ⟨v, rfl, h⟩ := h
    simp only [DM.lift_bind] at h
    obtain ⟨xa, hx, ya, hy, h⟩ := h
    obtain ⟨hb, rfl⟩ := DM.lift_some h
    obtain ⟨v, e1, e2⟩ := bin_sim hC (hf.ev hx) (hf.ev hy) hb
    exact .of_out (.of_same hR (e1 w) e2)
  case unOp op t x =>
    replace h := opVal_some h; obtain ⟨v, rfl, h⟩ := h
    simp only [DM.lift_bind] at h
    obtain ⟨xa, hx, h⟩ := h
    obtain ⟨hb, rfl⟩ := DM.lift_some h
    obtain ⟨v, e1, e2⟩ := un_sim (P := P) (hf.ev hx) hb
    exact .of_out (.of_same hR (e1 w) e2)
  case convert src dst x =>
    replace h := opVal_some h; obtain ⟨v, rfl, h⟩ := h
    simp only [DM.lift_bind] at h
    obtain ⟨xa, hx, h⟩ := h
    exact .of_out (conv_sim hC hR (hf.ev hx) h hF)
  case makeInterface t x =>
    replace h := opVal_some h; obtain ⟨v, rfl, h⟩ := h
    simp only [DM.lift_bind, DM.guard_bind] at h
    obtain ⟨xa, hx, hg, h⟩ := h
    obtain ⟨rfl, rfl⟩ := DM.pure_some h
    obtain ⟨v, e1, e2⟩ := makeInterface_sim hC.toTyOk (hf.ev hx) hg
    exact .of_out (.of_same hR (e1 w) e2)
  case makeFunc g first cap =>
    replace h := opVal_some h; obtain ⟨v, rfl, h⟩ := h
    simp only [DM.lift_bind] at h
    obtain ⟨f, hg, xs, hx, ys, hy, h⟩ := h
    obtain ⟨rfl, rfl⟩ := DM.pure_some h
    have e1 := hf.evs hx
    have e2 := hf.evs hy
    have : g = .func f := by unfold toFunc? at hg; split at hg <;> cases hg; rfl
    subst this
    refine .of_out (.of_same hR (v := .func (.func f) (first.map a.eval) (cap.map a.eval)) (by simp [Instr.makeFunc]) ?_)
    simp only [VR]
    exact ⟨_, _, rfl, by simpa using e1, by simpa using e2⟩
  case makeMap t rv =>
    replace h := opVal_some h; obtain ⟨v, rfl, h⟩ := h
    simp only [DM.lift_bind, DM.guard_bind] at h
    obtain ⟨ra, hr, hg, h⟩ := h
    have hrr := hf.evOpt hr
    refine .of_out (makeMap_sim hC.toTyOk hR ?_ h hF)
    intro v hv
    rw [hv] at hrr
    cases ra with
    | none => exact hrr.elim
    | some ra =>
      simp only [OptR] at hrr
      simp only [isIntV] at hg
      split at hg
      · rename_i k n; simp only [VR] at hrr; exact ⟨k, n, hrr⟩
      · cases hg
  case makeSlice t l c =>
    replace h := opVal_some h; obtain ⟨v, rfl, h⟩ := h
    simp only [DM.lift_bind] at h
    obtain ⟨l, hl, c, hc, h⟩ := h
    obtain ⟨ν, w', v, e1, e2, e3, e4, e5⟩ := makeSlice_sim hC.toTyOk hR (hf.ev hl) (hf.ev hc) h hF
    exact .of_out ⟨ν, w', v, e1, e2, e3, e4, e5⟩
  case slice t x lo hi mx =>
    replace h := opVal_some h; obtain ⟨v, rfl, h⟩ := h
    simp only [DM.lift_bind] at h
    obtain ⟨x, hx, lo, hlo, hi, hhi, mx, hmx, h⟩ := h
    obtain ⟨rfl, v, e1, e2⟩ := slice_sim hC.toTyOk hR (hf.ev hx) (hf.evOpt hlo) (hf.evOpt hhi) (hf.evOpt hmx) h
    exact .of_out (.of_same hR e1 e2)
  case fieldAddr t x f =>
    replace h := opVal_some h; obtain ⟨v, rfl, h⟩ := h
    simp only [DM.lift_bind] at h
    obtain ⟨x, hx, h⟩ := h
    obtain ⟨rfl, v, e1, e2⟩ := fieldAddr_sim hC.toTyOk (hf.ev hx) h
    exact .of_out (.of_same hR (e1 w) e2)
  case field t x f =>
    replace h := opVal_some h; obtain ⟨v, rfl, h⟩ := h
    simp only [DM.lift_bind] at h
    obtain ⟨x, hx, h⟩ := h
    obtain ⟨rfl, v, e1, e2⟩ := field_sim hC.toTyOk (hf.ev hx) h
    exact .of_out (.of_same hR (e1 w) e2)
  case indexAddr t x i =>
    replace h := opVal_some h; obtain ⟨v, rfl, h⟩ := h
    simp only [DM.lift_bind] at h
    obtain ⟨x, hx, i, hi, h⟩ := h
    obtain ⟨rfl, v, e1, e2⟩ := indexAddr_sim hC.toTyOk (hf.ev hx) (hf.ev hi) h
    exact .of_out (.of_same hR (e1 w) e2)
  case index t x i =>
    replace h := opVal_some h; obtain ⟨v, rfl, h⟩ := h
    simp only [DM.lift_bind] at h
    obtain ⟨x, hx, i, hi, h⟩ := h
    obtain ⟨rfl, v, e1, e2⟩ := index_sim hC.toTyOk (hf.ev hx) (hf.ev hi) h
    exact .of_out (.of_same hR (e1 w) e2)
  case lookup t m k ok =>
    replace h := opVal_some h; obtain ⟨v, rfl, h⟩ := h
    simp only [DM.lift_bind] at h
    obtain ⟨m, hm, k, hk, h⟩ := h
    obtain ⟨rfl, v, e1, e2⟩ := lookup_sim hC hR (hf.ev hm) (hf.ev hk) h
    exact .of_out (.of_same hR e1 e2)
  case mapUpdate t m k v =>
    replace h := opUnit_some h; obtain ⟨rfl, u, h⟩ := h
    simp only [DM.lift_bind] at h
    obtain ⟨m, hm, k, hk, v, hv, h⟩ := h
    obtain ⟨w', e1, e2, e3, e4⟩ := mapUpdate_sim hC hR (hf.ev hm) (hf.ev hk) (hf.ev hv) h
    exact .of_skip e1 e2 e4
  case mapEntry t m k =>
    replace h := opVal_some h; obtain ⟨v, rfl, h⟩ := h
    simp only [DM.lift_bind] at h
    obtain ⟨m, hm, k, hk, h⟩ := h
    obtain ⟨w', v, e1, e2, e3, e4, e5⟩ := mapEntry_sim hC hR (hf.ev hm) (hf.ev hk) h
    exact .of_out (.of_keep e2 e1 e5 e4)
  case entryStore t m st v =>
    replace h := opUnit_some h; obtain ⟨rfl, u, h⟩ := h
    simp only [DM.lift_bind] at h
    obtain ⟨m, hm, k, hk, v, hv, h⟩ := h
    obtain ⟨w', e1, e2, e3, e4⟩ := entryStore_sim (P := P) (t := t) hR (hf.ev hm) (hf.ev hk) (hf.ev hv) h
    exact .of_skip e1 e2 e4
  case range t x =>
    replace h := opVal_some h; obtain ⟨v, rfl, h⟩ := h
    simp only [DM.lift_bind] at h
    obtain ⟨x, hx, h⟩ := h
    exact .of_out (range_sim hC.toTyOk hR (hf.ev hx) h hF)
  case next it isString =>
    replace h := opVal_some h; obtain ⟨v, rfl, h⟩ := h
    simp only [DM.lift_bind] at h
    obtain ⟨x, hx, h⟩ := h
    obtain ⟨w', v, e1, e2, e3, e4, e5⟩ := next_sim (P := P) (ty := type) hR (hf.ev hx) h
    exact .of_out (.of_keep e2 e1 e5 e4)
  case entry it =>
    replace h := opVal_some h; obtain ⟨v, rfl, h⟩ := h
    simp only [DM.lift_bind] at h
    obtain ⟨x, hx, h⟩ := h
    obtain ⟨rfl, v, e1, e2⟩ := entry_sim (P := P) hR (hf.ev hx) h
    exact .of_out (.of_same hR e1 e2)
  case typeAssert x xt t ok =>
    replace h := opVal_some h; obtain ⟨v, rfl, h⟩ := h
    simp only [DM.lift_bind] at h
    obtain ⟨x, hx, h⟩ := h
    obtain ⟨rfl, v, e1, e2⟩ := tassert_sim hC.toTyOk (xt := xt) (hf.ev hx) h
    exact .of_out (.of_same hR (e1 w) e2)
  case extract t i =>
    replace h := opVal_some h; obtain ⟨v, rfl, h⟩ := h
    simp only [DM.lift_bind] at h
    obtain ⟨x, hx, h⟩ := h
    obtain ⟨hn, rfl⟩ := DM.lift_some h
    obtain ⟨v, e1, e2⟩ := nthOf_sim (P := P) (hf.ev hx) hn
    exact .of_out (.of_same hR (e1 w) e2)
  case panic x =>
    simp only [DM.lift_bind] at h
    obtain ⟨x', hx, h⟩ := h
    have hx := hf.ev hx
    unfold panicD at h
    split at h
    · rename_i t v
      obtain ⟨rfl, rfl⟩ := DM.pure_some h
      have hx' := hx
      simp only [VR] at hx
      obtain ⟨y, e, hy⟩ := hx
      refine ⟨μ, w, hR, Ext'.refl _ _ _, rfl, _, ?_, hx'⟩
      simp [Instr.panic, e, goPanic]
    · exact (DM.fail_some h).elim
  case call c =>
    unfold callOpD at h
    obtain ⟨callee, args, tys⟩ := c
    cases callee with
    | value f => cases hq
    | invoke r m => cases hq
    | builtin b =>
      simp only [DM.guard_bind, DM.lift_bind] at h
      obtain ⟨hg, as, ha, h⟩ := h
      have hb : isRecover b = false := by simpa [quietOp] using hq
      have := builtin_sim (P := P) (ty := type) (cs := args.map fun | .const _ => true | _ => false) hC hR (vs := args.map a.eval) (by simpa using hf.evs ha) hb h hF
      simp only [resolve, pure_bind, invoke]
      exact this
  case defer c =>
    simp only [DM.guard_bind, DM.lift_bind] at h
    obtain ⟨hg, t, ht, h⟩ := h
    unfold targetD at ht
    obtain ⟨callee, args, tys⟩ := c
    cases callee with
    | builtin b => cases ht
    | invoke r m => cases ht
    | value f =>
      simp only at ht
      split at ht
      · rename_i g first captured as hfv has
        cases ht
        simp only [deferD] at h
        obtain ⟨rfl, rfl⟩ := DM.pure_some h
        have e1 := hf.ev hfv
        simp only [VR] at e1
        obtain ⟨x, y, e, h1, h2⟩ := e1
        refine ⟨μ, w, hR, Ext'.refl _ _ _, rfl, { target := .fn (.func g) y, args := x ++ args.map a.eval }, by simp [resolve, Deferred.ofValue, e], y, _, rfl, ?_⟩
        simp only [Array.toList_append, Array.toList_map, List.append_assoc]
        exact h1.append ((hf.evs has).append h2)
      · cases ht
        simp only [deferD] at h
        exact (DM.fail_some h).elim
      · cases ht

end Pd
