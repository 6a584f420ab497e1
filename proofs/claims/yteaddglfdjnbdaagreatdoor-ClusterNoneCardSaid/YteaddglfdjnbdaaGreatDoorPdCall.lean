/-
  Calls, in the machine.
-/
import Derived.Test.YteaddglfdjnbdaaGreatDoorPdCode
set_option linter.unusedVariables false
set_option linter.unusedSimpArgs false
namespace Pd
open Go

variable {P : Program} {C : Ctx} {base : World}

/-! ### What the evaluator is told of the program -/

def extFn (fn : Func) : Ext → (Array Value → Sem Value)
  | .same => Extern.AbiNoEscape.same
  | .mapsClone => Extern.MapsClone.clone
  | .overlaps => Extern.SlicesOverlaps.overlaps fn.params fn.resultTypes

def ExtOk (P : Program) (f : Nat) (e : Ext) : Prop :=
  ∃ fn, P.funcs[f]? = some fn ∧ fn.name ≠ "runtime.NumGoroutine" ∧ fn.body = none ∧ Extern.findNext fn = none ∧ Extern.find fn = some (extFn fn e) ∧
    match e with
    | .overlaps => ∃ t el i, fn.params[0]? = some t ∧ P.underlying t = some (.slice el) ∧ P.info? el = some i
    | _ => True

structure ProgOk (P : Program) (C : Ctx) : Prop extends TypesOk P C where
  fn : ∀ f fn, C.fn f = some fn → P.funcs[f]? = some fn ∧ fn.name ≠ "runtime.NumGoroutine"
  ext : ∀ f e, C.ext f = some e → ExtOk P f e

/-- What may be asked of a call's summary. -/
structure PrimOk (P : Program) (C : Ctx) (base : World) : Prop where
  mono : C.PrimMono
  fn : ∀ f p, C.prim f = some p → ∀ args s r s', p args s = some (r, s') → s.base ≤ s.ctr → ∀ μ w (vs : Array Value), Rep base μ s.heap.get w → GlOk C μ → Fresh μ s.heap.get s.ctr s'.ctr → VRs μ args vs.toList →
    ∀ kind cs x, RcOk μ kind cs x s.rc → FnOut P base μ s s' w f vs kind cs x r

/-- How a call is run, whatever recover may find in it. -/
structure DOk (P : Program) (C : Ctx) (base : World) (K : CallFn) : Prop where
  mono : ∀ c a, Mono (K c a)
  fn : ∀ f args s r s', K (.fn f) args s = some (r, s') → s.base ≤ s.ctr → ∀ μ w (vs : Array Value), Rep base μ s.heap.get w → GlOk C μ → Fresh μ s.heap.get s.ctr s'.ctr → VRs μ args vs.toList →
    ∀ kind cs x, RcOk μ kind cs x s.rc → FnOut P base μ s s' w f vs kind cs x r
  yield : ∀ l args s r s', K (.yield l) args s = some (r, s') → s.base ≤ s.ctr → s.rc = none →
    ∀ μ w (vs : Array Value), Rep base μ s.heap.get w → GlOk C μ → Fresh μ s.heap.get s.ctr s'.ctr → VRs μ args vs.toList → ∀ c cs, YieldOut P base μ s s' w l vs r c cs

theorem plain_some {m : DM Res} {s s' : St} {r : Res} (h : plainCall m s = some (r, s')) : ∃ s1, m { s with rc := none } = some (r, s1) ∧ s' = { s1 with rc := s.rc } := by
  unfold plainCall at h
  simp only [St.withRc_eq] at h
  split at h
  · rename_i r' s1 h1
    simp only [Option.some.injEq, Prod.mk.injEq] at h
    obtain ⟨rfl, rfl⟩ := h
    exact ⟨s1, h1, rfl⟩
  · cases h

theorem FnOut.shift {μ : Mu} {s s' t t' : St} {w : World} {f : FuncId} {vs : Array Value} {kind : CallKind} {cs : List Frame} {x : Value} {r : Res} (h : FnOut P base μ s s' w f vs kind cs x r) (e : t = s) (e' : t' = s') : FnOut P base μ t t' w f vs kind cs x r := by
  subst e e'; exact h

theorem DOk.plain {K : CallFn} (h : DOk P C base K) : KOk P C base (fun c a => plainCall (K c a)) := by
  refine ⟨fun c a => Mono.plainCall (h.mono c a), ?_, ?_⟩
  · intro f args s r s' hs hb
    obtain ⟨s1, h1, rfl⟩ := plain_some hs
    refine ⟨rfl, ?_⟩
    intro μ w vs hR hg hF hv cs
    have hout := h.fn f args _ r s1 h1 hb μ w vs hR hg hF hv .normal cs undef (.inl rfl)
    have h0 : s1.rc = none := by
      obtain ⟨_, _, _, _, h0, _⟩ := hout
      exact h0
    refine hout.shift rfl ?_
    cases s1
    simp only at h0
    subst h0
    rfl
  · intro l args s r s' hs hb
    obtain ⟨s1, h1, rfl⟩ := plain_some hs
    refine ⟨rfl, ?_⟩
    intro μ w vs hR hg hF hv
    exact h.yield l args _ r s1 h1 hb rfl μ w vs hR hg hF hv

/-! ### Functions that the model gives -/

theorem run_callFunc_ext {f : Nat} {fn : Func} {e : Array Value → Sem Value} {vs : Array Value} {w w' : World} {y : Value} (h1 : P.funcs[f]? = some fn) (h2 : fn.name ≠ "runtime.NumGoroutine") (h3 : fn.body = none) (h4 : Extern.findNext fn = none) (h5 : Extern.find fn = some e)
    (h : (e vs).run P w = .ok y w') : (callFunc f vs).run P w = .ok (.value y) w' := by
  simp [callFunc, h1, h2, h3, h4, h5, mark, Sem.run, h]

theorem run_callFunc_enter {f : Nat} {fn : Func} {c : Code} {vs : Array Value} (h1 : P.funcs[f]? = some fn) (h2 : fn.name ≠ "runtime.NumGoroutine") (h3 : fn.body = some c) (w : World) : (callFunc f vs).run P w = .ok (.enter f vs) w := by
  simp [callFunc, h1, h2, h3]

theorem ext_sim {f : Nat} {e : Ext} (hE : ExtOk P f e) {args : List AV} {s s' : St} {r : Res} (h : extD e args s = some (r, s')) {μ : Mu} {w : World} {vs : Array Value} (hR : Rep base μ s.heap.get w) (hF : Fresh μ s.heap.get s.ctr s'.ctr) (hv : VRs μ args vs.toList)
    {kind : CallKind} {cs : List Frame} {x : Value} : FnOut P base μ s s' w f vs kind cs x r := by
  obtain ⟨fn, h1, h2, h3, h4, h5, h6⟩ := hE
  obtain ⟨vs⟩ := vs
  simp only at hv
  unfold extD at h
  split at h
  · rename_i y
    obtain ⟨rfl, rfl⟩ := DM.pure_some h
    obtain ⟨v, rfl, hy⟩ := vrs1 hv
    exact ⟨μ, w, hR, Ext'.refl _ _ _, RcLe.refl _, .inl ⟨y, v, rfl, hy, rfl, run_callFunc_ext h1 h2 h3 h4 h5 (by show (Extern.AbiNoEscape.same #[v]).run P w = _; rfl)⟩⟩
  · rename_i t id
    obtain ⟨v, rfl, hy⟩ := vrs1 hv
    obtain ⟨a, rfl, ν, w', u, g1, g2, g3, g4, g5⟩ := mapsClone_sim (P := P) hR hy (show extD .mapsClone [.iface t (.map (some id))] s = some (r, s') from h) hF
    exact ⟨ν, w', g2, g3, RcLe.of_eq g5, .inl ⟨a, u, rfl, g4, g5, run_callFunc_ext h1 h2 h3 h4 h5 g1⟩⟩
  · rename_i p q
    obtain ⟨v, u, rfl, hy, hz⟩ := vrs2 hv
    obtain ⟨t, el, i, e1, e2, e3⟩ := h6
    have key : ∀ {a b : Option Addr} {la ca lb cb : Nat}, v = .slice a la ca → u = .slice b lb cb → (a = none ∨ b = none ∨ la = 0 ∨ lb = 0) → s' = s → r = .ret (.bool false) → FnOut P base μ s s' w f ([v, u].toArray) kind cs x r := by
      rintro a b la ca lb cb rfl rfl hh rfl rfl
      refine ⟨μ, w, hR, Ext'.refl _ _ _, RcLe.refl _, .inl ⟨.bool false, .bool false, rfl, by simp only [VR], rfl, run_callFunc_ext h1 h2 h3 h4 h5 ?_⟩⟩
      have e0 : extFn fn .overlaps #[.slice a la ca, .slice b lb cb] = (do
          let some t := fn.params[0]? | stuck "slices.overlaps: no parameter types"
          let .slice elem ← underlying t | stuck "slices.overlaps: slice type expected"
          let size ← Go.sizeOf elem
          match a, b with
          | some a, some b =>
            if la = 0 ∨ lb = 0 ∨ size = 0 then pure (.bool false)
            else if a.block != b.block && (← frozen a) && (← frozen b) then unsupported .addressObserved
            else do
              if a.block != b.block then do
                noView a; noView b
                if ← mayBeOne a b then return .bool ((← choose (.extern "sameAddr.stringBytes" 2)) == 1)
              pure (.bool (a.block == b.block && a.off < b.off + lb * size && b.off < a.off + la * size))
          | _, _ => pure (.bool false)) := rfl
      show (extFn fn .overlaps #[.slice a la ca, .slice b lb cb]).run P w = _
      rw [e0]
      simp only [e1, Sem.run_bind, run_underlying e2, Result.andThen_ok, Go.sizeOf, run_typeInfo e3, Sem.run_pure]
      cases a with
      | none => rfl
      | some a => cases b with
        | none => rfl
        | some b =>
          have : la = 0 ∨ lb = 0 ∨ i.size = 0 := by
            rcases hh with hh | hh | hh | hh
            · cases hh
            · cases hh
            · exact .inl hh
            · exact .inr (.inl hh)
          simp only [this, if_true, Sem.run_pure]
    split at h
    · obtain ⟨rfl, rfl⟩ := DM.pure_some h
      simp only [VR] at hy hz
      exact key hy hz (.inl rfl) rfl rfl
    · obtain ⟨rfl, rfl⟩ := DM.pure_some h
      simp only [VR] at hy hz
      obtain ⟨j, b, _, hz, _⟩ := hz
      exact key hy hz (.inl rfl) rfl rfl
    · obtain ⟨rfl, rfl⟩ := DM.pure_some h
      simp only [VR] at hy hz
      obtain ⟨j, b, _, hy, _⟩ := hy
      exact key hy hz (.inr (.inl rfl)) rfl rfl
    · obtain ⟨rfl, rfl⟩ := DM.pure_some h
      simp only [VR] at hy hz
      obtain ⟨j, b, _, hy, _⟩ := hy
      obtain ⟨j', b', _, hz, _⟩ := hz
      exact key hy hz (.inr (.inr (.inl rfl))) rfl rfl
    · obtain ⟨rfl, rfl⟩ := DM.pure_some h
      simp only [VR] at hy hz
      obtain ⟨j, b, _, hy, _⟩ := hy
      obtain ⟨j', b', _, hz, _⟩ := hz
      exact key hy hz (.inr (.inr (.inr rfl))) rfl rfl
    · exact (DM.fail_some h).elim
  · exact (DM.fail_some h).elim

theorem ext_rc {e : Ext} {args : List AV} {s s' : St} {r : Res} (h : extD e args s = some (r, s')) : s'.rc = s.rc := by
  unfold extD at h
  split at h
  · obtain ⟨_, rfl⟩ := DM.pure_some h; rfl
  · obtain ⟨⟨es, c⟩, s1, h1, h2⟩ := DM.bind_some h
    obtain ⟨id', s2, h3, h4⟩ := DM.bind_some h2
    obtain ⟨_, rfl⟩ := DM.pure_some h4
    unfold mapOf at h1
    obtain ⟨o, s3, h5, h6⟩ := DM.bind_some h1
    obtain ⟨rfl, _⟩ := objD_some h5
    split at h6
    · obtain ⟨_, rfl⟩ := DM.pure_some h6
      simp only [new, St.born_eq, Option.some.injEq, Prod.mk.injEq] at h3
      obtain ⟨_, rfl⟩ := h3; rfl
    · exact (DM.fail_some h6).elim
  · split at h <;> first | (obtain ⟨_, rfl⟩ := DM.pure_some h; rfl) | exact (DM.fail_some h).elim
  · exact (DM.fail_some h).elim

/-! ### Deferred calls -/

/-- A block goes, and is turned in the world. -/
theorem Rep.gone {μ : Mu} {g : Nat → Option AObj} {w : World} (h : Rep base μ g w) {id : Nat} {o : AObj} {i : Info} (ho : g id = some o) (hown : owned o) (hnc : ∀ cs e fz m, o ≠ .cells cs e fz m) (hi : μ id = some i) (O : Obj) :
    Rep base μ (fun j => if j = id then none else g j) { w with heap := w.heap.setIfInBounds i.blk O } := by
  have h1 := h.erase id
  have hl : ∀ o', live (fun j => if j = id then none else g j) o' → live g o' := fun o' hh => live_set (fun _ _ _ _ => .inr trivial) hh (by simp)
  have hge := h.ge id o i ho hown hi
  have hlt := h.lt id i hi
  refine ⟨h.below.trans ⟨rfl, rfl, rfl, by simp, fun k hk => by simp only [Array.getElem?_setIfInBounds]; rw [if_neg (by omega)]⟩, fun j x hx => by simpa using h.lt j x hx, ?_, h1.excl, h1.ge, h1.roc⟩
  intro j x hj hlv hc
  obtain ⟨xi, hxi, hr⟩ := h1.obj j x hj hlv hc
  refine ⟨xi, hxi, hr.mono (MuLe.refl μ) ?_⟩
  have hne : j ≠ id := by rintro rfl; simp at hj
  simp only [if_neg hne] at hj
  have hx := h.excl id o j x i xi ho hj (hl x hlv) hc hown (Ne.symm hne) hi hxi
  have hbk : xi.blk ≠ i.blk := by
    rcases hx with hx | hx
    · exact fun e => hx e.symm
    · obtain ⟨c, cs, e, fz, cs', e', fz', rfl, _, _⟩ := hx
      exact absurd rfl (hnc _ _ _ _)
  simp only [Array.getElem?_setIfInBounds]
  rw [if_neg (Ne.symm hbk)]

section
variable {fr : Frame} {cs : List Frame} {w : World}

theorem step_collected {r : Nat} {ds : List Deferred} {w' : World} {calls : List Deferred} (hd : fr.defers = { target := .collected r, args := #[] } :: ds) (hm : fr.mode ≠ .run) (h : (Instr.takeDeferred r).run P w = .ok calls w') :
    step P (lone fr cs w) = .next (lone { fr with defers := calls ++ ds } cs w') := by
  refine step_lone_go ?_
  have : stepG P true { frame := fr, callers := cs, status := .running, dying := none } w = unwind P true fr cs none w := by
    simp only [stepG]
  rw [this]
  simp only [unwind, hd, Sem.runT_eq, h, GStep.bare_after, GStep.bare_go]

theorem step_deferred {f : FuncId} {cap args : Array Value} {ds : List Deferred} (hd : fr.defers = { target := .fn (.func f) cap, args := args } :: ds) (hm : fr.mode ≠ .run) :
    stepG P true { frame := fr, callers := cs, status := .running, dying := none } w = callDeferred P { fr with defers := ds } cs none { target := .fn (.func f) cap, args := args } w := by
  have : stepG P true { frame := fr, callers := cs, status := .running, dying := none } w = unwind P true fr cs none w := by
    simp only [stepG]
  rw [this]
  simp only [unwind, hd]

theorem callDeferred_enter {f : FuncId} {cap args : Array Value} (h : (callFunc f (args ++ cap)).run P w = .ok (.enter f (args ++ cap)) w) :
    (callDeferred P fr cs none { target := .fn (.func f) cap, args := args } w).bare = .go { frame := Frame.enter P f (args ++ cap) .deferred, callers := fr :: cs, status := .running, dying := none } w := by
  unfold callDeferred
  rw [if_neg (by simp)]
  simp only [invoke, Sem.runT_eq, h, GStep.bare_after, GStep.bare_go]

theorem callDeferred_value {f : FuncId} {cap args : Array Value} {y : Value} {w' : World} (h : (callFunc f (args ++ cap)).run P w = .ok (.value y) w') :
    (callDeferred P fr cs none { target := .fn (.func f) cap, args := args } w).bare = .go { frame := fr, callers := cs, status := .running, dying := none } w' := by
  unfold callDeferred
  rw [if_neg (by simp)]
  simp only [invoke, Sem.runT_eq, h, GStep.bare_after, GStep.bare_go]
end

/-- How a frame stands when it leaves: it returns, or panics. -/
def ModeOk (ν : Mu) : Option AV → FrameMode → Prop
  | none, m => m = .returning
  | some v, m => ∃ y, m = .panicking [{ v := y, recovered := false }] ∧ VR ν v y

theorem ModeOk.mono {μ ν : Mu} (h : MuLe μ ν) : ∀ {p : Option AV} {m : FrameMode}, ModeOk μ p m → ModeOk ν p m
  | none, m, hm => hm
  | some v, m, ⟨y, e, hy⟩ => ⟨y, e, VR.mono h _ _ hy⟩

theorem ModeOk.ne_run {ν : Mu} : ∀ {p : Option AV} {m : FrameMode}, ModeOk ν p m → m ≠ .run
  | none, m, hm => by simp only [ModeOk] at hm; subst hm; simp
  | some v, m, ⟨y, e, hy⟩ => by subst e; simp

/-- Whether it panics still, when a deferred call has ended. -/
def nextP : Option AV → Bool → Option AV
  | none, _ => none
  | some _, true => none
  | some v, false => some v

theorem unwind_sim {K : CallFn} (hK : DOk P C base K) {cs : List Frame} : ∀ (ds : List AD) {p r : Option AV} {s s' : St} {fr : Frame} {μ : Mu} {w : World},
    unwindD K ds p s = some (r, s') → s.base ≤ s.ctr → Rep base μ s.heap.get w → GlOk C μ → Fresh μ s.heap.get s.ctr s'.ctr → DefsR μ ds fr.defers → ModeOk μ p fr.mode →
    s'.rc = s.rc ∧ ∃ ν w' mode, Rep base ν s'.heap.get w' ∧ Ext' μ ν s.ctr s'.ctr ∧ ModeOk ν r mode ∧ Steps P (lone fr cs w) (lone { fr with defers := [], mode := mode } cs w')
  | [], p, r, s, s', fr, μ, w, h, hb, hR, hg, hF, hd, hm => by
    unfold unwindD at h
    obtain ⟨rfl, rfl⟩ := DM.pure_some h
    simp only [DefsR] at hd
    refine ⟨rfl, μ, w, fr.mode, hR, Ext'.refl _ _ _, hm, ?_⟩
    rw [show ({ fr with defers := [], mode := fr.mode } : Frame) = fr by cases fr; simp only at hd; subst hd; rfl]
    exact Steps.refl _ _
  | .mark rb :: ds, p, r, s, s', fr, μ, w, h, hb, hR, hg, hF, hd, hm => by
    unfold unwindD at h
    obtain ⟨o, s1, h1, h2⟩ := DM.bind_some h
    split at h2
    · obtain ⟨u, s2, h3, h4⟩ := DM.bind_some h2
      obtain ⟨rfl, hgo, hrow, i, hi, hO⟩ := loop_of hR h1 (by simp)
      have k2 := (Mono.putObj _ _).keeps h3 hb
      obtain ⟨o2, h5, h6, h7, rfl⟩ := putObj_some h3
      obtain ⟨e, es, he, ⟨i', hi', rfl⟩, hes⟩ := hd
      rw [hi] at hi'; cases hi'
      have hO' : w.heap[i.blk]? = some (.deferred (some [])) := hO
      have hrun : (Instr.takeDeferred i.blk).run P w = .ok [] { w with heap := w.heap.setIfInBounds i.blk (.deferred none) } := by
        simp [Instr.takeDeferred, getObj_of hO' (fun _ _ _ hh => by cases hh), setObj_of hO' (fun _ _ _ hh => by cases hh)]
      have hR2 := hR.gone hgo trivial (fun _ _ _ _ hh => by cases hh) hi (.deferred none)
      obtain ⟨q1, ν, w', mode, q2, q3, q4, q5⟩ := unwind_sim hK (cs := cs) ds (fr := { fr with defers := es }) h4 k2.bc (by simp only [Tr.get_set_fun]; exact hR2) hg (by
        intro id hl hh
        obtain ⟨f1, f2⟩ := hF id hl hh
        refine ⟨f1, ?_⟩
        simp only [Tr.get_set]
        split
        · rfl
        · exact f2) hes hm
      refine ⟨q1, ν, w', mode, q2, q3, q4, ?_⟩
      exact Steps.head (step_collected he hm.ne_run hrun) q5
    · exact (DM.fail_some h2).elim
  | .call f args :: ds, p, r, s, s', fr, μ, w, h, hb, hR, hg, hF, hd, hm => by
    unfold unwindD at h
    simp only [St.withRc_eq] at h
    cases hcall : K (.fn f) args { s with rc := rcFor p } with
    | none => rw [hcall] at h; cases h
    | some q =>
      obtain ⟨rr, s1⟩ := q
      rw [hcall] at h
      cases rr with
      | pan v => cases h
      | ret v =>
        dsimp only at h
        have k1 : Keeps s { s1 with rc := s.rc } := by
          have := (hK.mono _ _).keeps hcall hb
          exact ⟨this.ctr, this.base, this.bc, this.heap⟩
        obtain ⟨e, es, he, ⟨cap, xs, rfl, hx⟩, hes⟩ := hd
        -- what is left when the call has ended
        have key : ∀ (p' : Option AV) (b : Bool), unwindD K ds p' { s1 with rc := s.rc } = some (r, s') → p' = nextP p b → (p = none → s1.rc = none) → (∀ v, p = some v → ∃ v2, s1.rc = some (v2, b)) →
            s'.rc = s.rc ∧ ∃ ν w' mode, Rep base ν s'.heap.get w' ∧ Ext' μ ν s.ctr s'.ctr ∧ ModeOk ν r mode ∧ Steps P (lone fr cs w) (lone { fr with defers := [], mode := mode } cs w') := by
          intro p' b h' hp hn hsm
          have k2 : Keeps { s1 with rc := s.rc } s' := by
            refine Mono.keeps ?_ h' k1.bc
            exact Mono.unwindD hK.mono _ _
          have hrcok : RcOk μ .deferred ({ fr with defers := es } :: cs) (match fr.mode with | .panicking (y :: _) => y.v | _ => undef) (rcFor p) := by
            cases p with
            | none => exact .inr ⟨rfl, _, _, rfl, hm⟩
            | some v =>
              obtain ⟨y, hy, hv⟩ := hm
              refine ⟨rfl, ⟨_, _, rfl⟩, ?_⟩
              rw [hy]; exact hv
          obtain ⟨ν, w1, q1, q2, q3, q4⟩ := hK.fn f args _ _ s1 hcall hb μ w (xs ++ cap) hR hg (hF.fst k2.ctr) hx .deferred _ _ hrcok
          have hset0 : setRc ({ fr with defers := es } :: cs) (match fr.mode with | .panicking (y :: _) => y.v | _ => undef) (rcFor p) = { fr with defers := es } :: cs := by
            cases p with
            | none => rfl
            | some v =>
              obtain ⟨y, hy, hv⟩ := hm
              simp only [rcFor, setRc, hy]
          have hm' : ∃ mode, ModeOk ν p' mode ∧ Steps P (lone fr cs w) (lone { fr with defers := es, mode := mode } cs w1) := by
            rcases q4 with ⟨a, y, hra, hy, hrc1, hrun⟩ | ⟨hrun, fr1, hsteps, hfn, hleft⟩
            · -- the model's own
              refine ⟨fr.mode, ?_, .one (step_lone_go ?_)⟩
              · rw [hp]
                cases p with
                | none => exact hm
                | some v =>
                  obtain ⟨v2, hv2⟩ := hsm v rfl
                  rw [hrc1] at hv2
                  simp only [rcFor, Option.some.injEq, Prod.mk.injEq] at hv2
                  rw [← hv2.2]
                  exact hm.mono q2.le
              · rw [step_deferred he hm.ne_run, callDeferred_value hrun]
            · have hen : step P (lone fr cs w) = .next (lone (Frame.enter P f (xs ++ cap) .deferred) ({ fr with defers := es } :: cs) w) :=
                step_lone_go (by rw [step_deferred he hm.ne_run, callDeferred_enter (hrun w)])
              obtain ⟨l1, l2, l3, fn, y, l4, l5, l6⟩ := hleft
              rw [hset0] at hsteps
              cases p with
              | none =>
                simp only [rcFor, RcLe] at q3
                rw [q3] at hsteps
                refine ⟨.returning, by rw [hp]; rfl, .head hen (hsteps.trans (.one (step_lone_go ?_)))⟩
                simp only [ModeOk] at hm
                have hfr : ({ fr with defers := es, mode := .returning } : Frame) = { fr with defers := es } := by rw [← hm]
                rw [hfr]
                simp [stepG, unwind, doReturn, l1, l2, l3, l4, l5, setRc, hm]
              | some v' =>
                obtain ⟨b1, hb1⟩ := q3
                obtain ⟨v2, hv2⟩ := hsm v' rfl
                rw [hb1] at hsteps hv2
                simp only [Option.some.injEq, Prod.mk.injEq] at hv2
                obtain ⟨rfl, rfl⟩ := hv2
                obtain ⟨y0, hy0, hv0⟩ := hm
                cases b1 with
                | true =>
                  refine ⟨.returning, by rw [hp]; rfl, .head hen (hsteps.trans (.one (step_lone_go ?_)))⟩
                  simp [stepG, unwind, doReturn, l1, l2, l3, l4, l5, setRc, hy0]
                | false =>
                  refine ⟨fr.mode, by rw [hp]; exact ⟨y0, hy0, VR.mono q2.le _ _ hv0⟩, .head hen (hsteps.trans (.one (step_lone_go ?_)))⟩
                  simp [stepG, unwind, doReturn, l1, l2, l3, l4, l5, setRc, hy0]
          obtain ⟨mode, hmo, hst⟩ := hm'
          obtain ⟨q5, ν2, w2, mode2, q6, q7, q8, q9⟩ := unwind_sim hK (cs := cs) ds (fr := { fr with defers := es, mode := mode }) h' k1.bc q1 (hg.mono q2.le) (hF.snd q2 k1) (hes.mono q2.le) hmo
          exact ⟨q5, ν2, w2, mode2, q6, q2.trans q7 k1.ctr k2.ctr, q8, hst.trans q9⟩
        cases p with
        | none =>
          cases hs : s1.rc with
          | none =>
            rw [hs] at h
            exact key none false h rfl (fun _ => hs) (fun v hv => by cases hv)
          | some q => rw [hs] at h; cases h
        | some v' =>
          cases hs : s1.rc with
          | none => rw [hs] at h; cases h
          | some q =>
            obtain ⟨v2, b⟩ := q
            rw [hs] at h
            cases b with
            | true => exact key none true h rfl (fun hh => by cases hh) (fun v hv => ⟨v2, hs⟩)
            | false => exact key (some v') false h rfl (fun hh => by cases hh) (fun v hv => ⟨v2, hs⟩)

end Pd
