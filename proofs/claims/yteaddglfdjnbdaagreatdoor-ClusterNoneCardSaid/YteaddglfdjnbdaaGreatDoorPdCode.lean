/-
  Code, in the machine.
-/
import Derived.Test.YteaddglfdjnbdaaGreatDoorPdDraw3
set_option linter.unusedVariables false
set_option linter.unusedSimpArgs false
namespace Pd
open Go

variable {P : Program} {C : Ctx} {base : World}

theorem getObj_of {w : World} {r : Nat} {o : Obj} (h : w.heap[r]? = some o) (hn : ∀ c e f, o ≠ .cells c e f) : (getObj r).run P w = .ok o w := by
  cases o <;> first | exact absurd rfl (hn _ _ _) | simp [getObj, Sem.run, h]

theorem setObj_of {w : World} {r : Nat} {o o' : Obj} (h : w.heap[r]? = some o) (hn : ∀ c e f, o ≠ .cells c e f) : (setObj r o').run P w = .ok () { w with heap := w.heap.setIfInBounds r o' } := by
  cases o <;> first | exact absurd rfl (hn _ _ _) | simp [setObj, Sem.run, h]

theorem getLoop_of {w : World} {l : Nat} {r : Loop} (h : w.heap[l]? = some (.loop r)) : (Instr.getLoop l).run P w = .ok r w := by
  simp [Instr.getLoop, getObj_of h (fun _ _ _ hh => by cases hh)]

/-- A loop's object. -/
theorem loop_of {μ : Mu} {s s' : St} {w : World} {l : Nat} {o : AObj} (hR : Rep base μ s.heap.get w) (h : objD l s = some (o, s')) (hc : o ≠ .chain) : s' = s ∧ s.heap.get l = some o ∧ isRow (some o) = false ∧ ∃ i, μ l = some i ∧ ObjR μ w i o := by
  obtain ⟨rfl, hm⟩ := objD_some h
  obtain ⟨hg, hrow⟩ := St.mt_ob hm
  obtain ⟨i, hi, hO⟩ := hR.obj l o hg (by cases o <;> first | trivial | exact absurd hrow (by simp [isRow])) hc
  exact ⟨rfl, hg, hrow, i, hi, hO⟩

theorem iter_sim {K : CallFn} {body : Fr → DM (Ex × Fr)} (hmono : ∀ fr, Mono (body fr)) {bc : Code} {b : Frame} {k : List Item} {cs : List Frame} {x : Value}
    (hbody : ∀ {fr fr' : Fr} {s s' : St} {e : Ex} {a : Act} {μ : Mu} {w : World}, body fr s = some ((e, fr'), s') → s.base ≤ s.ctr → Rep base μ s.heap.get w → GlOk C μ → FrR μ b fr a → Fresh μ s.heap.get s.ctr s'.ctr → RcOk μ b.kind cs x s.rc →
      CodeOut P base μ s s' (lone (b.atR a (.code bc :: .inLoop bc :: k)) (setRc cs x s.rc) w) b (.inLoop bc :: k) cs x e fr') :
    ∀ (n : Nat) {fr fr' : Fr} {s s' : St} {e : Ex} {a : Act} {μ : Mu} {w : World}, iter body n fr s = some ((e, fr'), s') → s.base ≤ s.ctr → Rep base μ s.heap.get w → GlOk C μ → FrR μ b fr a → Fresh μ s.heap.get s.ctr s'.ctr → RcOk μ b.kind cs x s.rc →
      CodeOut P base μ s s' (lone (b.atR a (.code bc :: .inLoop bc :: k)) (setRc cs x s.rc) w) b k cs x e fr' := by
  intro n
  induction n with
  | zero => intro fr fr' s s' e a μ w h; exact (DM.fail_some h).elim
  | succ n ih =>
    intro fr fr' s s' e a μ w h hb hR hg hf hF hrc
    unfold iter at h
    obtain ⟨⟨e1, fr1⟩, s1, h1, h2⟩ := DM.bind_some h
    have k1 := (hmono fr).keeps h1 hb
    cases e1 with
    | normal =>
      simp only at h2
      have k2 := (Mono.iter hmono n fr1).keeps h2 k1.bc
      obtain ⟨ν, a1, w1, p1, p2, p3, p4, p5⟩ := hbody h1 hb hR hg hf (hF.fst k2.ctr) hrc
      have := ih h2 k1.bc p1 (hg.mono p2.le) p4 (hF.snd p2 k1) (RcOk.step p2.le p3 hrc)
      exact CodeOut.trans p2 k1.ctr k2.ctr p3 (p5.trans (.one stepR_inLoop)) this
    | exit id =>
      simp only at h2
      obtain ⟨q, rfl⟩ := DM.pure_some h2
      cases q
      obtain ⟨ν, a1, w1, p1, p2, p3, p4, k2, p5, p6⟩ := hbody h1 hb hR hg hf hF hrc
      exact ⟨ν, a1, w1, p1, p2, p3, p4, k2, by rw [p5]; rfl, p6⟩
    | ret =>
      simp only at h2
      obtain ⟨q, rfl⟩ := DM.pure_some h2
      cases q
      obtain ⟨ν, a1, w1, p1, p2, p3, p4, p5⟩ := hbody h1 hb hR hg hf hF hrc
      exact ⟨ν, a1, w1, p1, p2, p3, p4, p5⟩
    | pan v =>
      simp only at h2
      obtain ⟨q, rfl⟩ := DM.pure_some h2
      cases q
      obtain ⟨ν, a1, w1, p1, p2, p3, p4, p5⟩ := hbody h1 hb hR hg hf hF hrc
      exact ⟨ν, a1, w1, p1, p2, p3, p4, p5⟩

/-! ### Range over a function -/

section
variable {b : Frame} {a : Act} {k : List Item} {cs : List Frame} {w : World}

theorem step_enterLoop {fo : Operand} {params : Array Tmp} {assign body : Code} {l : Nat} {mark : List Deferred} {w' : World} {g : Nat} {xf xc : Array Value} (h : (Instr.enterLoop b.fn a.tmps params assign body b.roundOf).run P w = .ok (l, mark) w') (hf : a.eval fo = .func (.func g) xf xc) :
    (stepG P true { frame := b.atR a (.code (.rangeFunc fo params assign body) :: k), callers := cs, status := .running, dying := none } w).bare =
      (stepG.apply P true (b.atR { a with defers := mark ++ a.defers } (.inRangeFunc l :: k)) cs none (callFunc g (xf ++ #[.func (.yield l) #[] #[]] ++ xc)) w').bare := by
  have he : ∀ todo, (b.atR { a with defers := mark ++ a.defers } todo).eval fo = .func (.func g) xf xc := by
    intro todo
    rw [Frame.eval_atR]
    exact hf
  simp only [stepG, stepG.exec, Frame.atR, Sem.runT_eq, h, GStep.bare_after]
  have he' := he (.inRangeFunc l :: k)
  simp only [Frame.atR] at he'
  have : (do let d ← resolve ({ fn := b.fn, tmps := a.tmps, todo := .inRangeFunc l :: k, defers := mark ++ a.defers, mode := .run, kind := b.kind, roundOf := b.roundOf } : Frame).eval { callee := .value fo, args := #[.const (.func (.yield l) #[] #[])], argTypes := #[] } 0; invoke d.target d.args : Sem Next) =
      callFunc g (xf ++ #[.func (.yield l) #[] #[]] ++ xc) := by
    simp only [resolve, he', Deferred.ofValue, pure_bind, invoke]
    simp [Frame.eval]
  rw [this]

theorem step_endLoop {l : Nat} {jump : Option Code} {w' : World} (h : (Instr.endLoop l).run P w = .ok jump w') :
    step P (lone (b.atR a (.endRangeFunc l :: k)) cs w) = .next (lone (b.atR a ((jump.map Item.code).toList ++ k)) cs w') :=
  step_lone_go (by simp [stepG, stepG.exec, Frame.atR, Sem.runT_eq, h])
end

theorem enter_sim {μ : Mu} {b : Frame} {fr : Fr} {a : Act} {s s1 s2 : St} {w : World} {d : Nat × List AD} {l : Nat} {params : Array Tmp} {assign body : Code} (hb : s.base ≤ s.ctr) (hR : Rep base μ s.heap.get w) (hg : GlOk C μ) (hf : FrR μ b fr a)
    (h1 : rangeHeadD fr s = some (d, s1))
    (h2 : new (.loop .ready none fr.fn fr.env fr.n params.toList assign body d.1) s1 = some (l, s2)) (hF : Fresh μ s.heap.get s.ctr s2.ctr) :
    Keeps s s2 ∧ s2.rc = s.rc ∧ ∃ ν w' i mark, (Instr.enterLoop b.fn a.tmps params assign body b.roundOf).run P w = .ok (i.blk, mark) w' ∧ Rep base ν s2.heap.get w' ∧ Ext' μ ν s.ctr s2.ctr ∧ ν l = some i ∧ DefsR ν d.2 (mark ++ a.defers) := by
  unfold rangeHeadD at h1
  cases hro : fr.roundOf with
  | some lo =>
    rw [hro] at h1
    simp only at h1
    obtain ⟨o, s1', h3, h4⟩ := DM.bind_some h1
    split at h4
    · rename_i st pd fn env n ps as bo dd
      obtain ⟨rfl, rfl⟩ := DM.pure_some h4
      obtain ⟨rfl, hgo, hrow, i, hi, hO⟩ := loop_of hR h3 (by simp)
      have k2 := (Mono.new _).keeps h2 hb
      have hro' := hf.round
      rw [hro] at hro'
      obtain ⟨i', hi', hbr⟩ := hro'
      rw [hi] at hi'; cases hi'
      obtain ⟨tm, di, hh, he, hd⟩ := hO
      obtain ⟨j, j1, j2, j3, j4, j5, j6, j7⟩ := newObj_sim (base := base) (O := .loop { state := .ready, pending := none, fn := b.fn, tmps := a.tmps, params := params, assign := assign, body := body, defers := di.blk }) hR h2 hF (by simp) rfl
        (fun j e1 e2 ν hν => ⟨a.tmps, di, by rw [e1]; show (w.heap.push _)[w.heap.size]? = _; simp [hf.fn], hf.env.mono hν, hν _ _ hd⟩)
      refine ⟨k2, j6, upd μ l j, _, j, [], ?_, j4, j5, j7, (hf.mono j5.le).defs⟩
      simp only [Instr.enterLoop, hbr, Sem.run_bind, getLoop_of hh, Result.andThen_ok, Sem.run_pure, run_newObj', j1]
    · exact (DM.fail_some h4).elim
  | none =>
    rw [hro] at h1
    simp only at h1
    obtain ⟨r, s1', h3, h4⟩ := DM.bind_some h1
    obtain ⟨rfl, rfl⟩ := DM.pure_some h4
    have k1 := (Mono.new _).keeps h3 hb
    have k2 := (Mono.new _).keeps h2 k1.bc
    have hro' := hf.round
    rw [hro] at hro'
    simp only [RoundR] at hro'
    obtain ⟨i, i1, i2, i3, i4, i5, i6, i7⟩ := newObj_sim (base := base) (O := .deferred (some [])) hR h3 (hF.fst k2.ctr) (by simp) rfl (fun j e1 e2 ν hν => by show (w.alloc _).heap[j.blk]? = _; rw [e1]; show (w.heap.push _)[w.heap.size]? = _; simp)
    obtain ⟨j, j1, j2, j3, j4, j5, j6, j7⟩ := newObj_sim (base := base) (O := .loop { state := .ready, pending := none, fn := b.fn, tmps := a.tmps, params := params, assign := assign, body := body, defers := i.blk }) i4 h2 (hF.snd i5 k1) (by simp) rfl
      (fun j e1 e2 ν hν => ⟨a.tmps, i, by rw [e1]; show ((w.alloc (.deferred (some []))).heap.push _)[(w.alloc (.deferred (some []))).heap.size]? = _; simp only [Array.getElem?_push_size, hf.fn], (hf.env.mono i5.le).mono hν, hν _ _ i7⟩)
    refine ⟨k1.trans k2, j6.trans i6, _, _, j, [{ target := .collected i.blk, args := #[] }], ?_, j4, i5.trans j5 k1.ctr k2.ctr, j7, _, _, rfl, ⟨i, j5.le _ _ i7, rfl⟩, ((hf.mono i5.le).mono j5.le).defs⟩
    simp only [Instr.enterLoop, hro', Sem.run_bind, Result.andThen_ok, Sem.run_pure, run_newObj', j1, i1]

theorem LoopState.busy_ne {st : LoopState} (h : (match st with | .busy => false | _ => true) = true) : (st == .busy) = false := by cases st <;> first | rfl | cases h

theorem rangeFunc_sim (hC : TypesOk P C) {K : CallFn} (hK : KOk P C base K) {cs : List Frame} {x : Value} {b : Frame} {k : List Item} {fo : Operand} {params : Array Tmp} {assign body : Code} {fr fr' : Fr} {s s' : St} {e : Ex} {a : Act} {μ : Mu} {w : World}
    (h : rangeFuncD K fr fo params assign body s = some ((e, fr'), s')) (hb : s.base ≤ s.ctr) (hR : Rep base μ s.heap.get w) (hg : GlOk C μ) (hf : FrR μ b fr a) (hF : Fresh μ s.heap.get s.ctr s'.ctr) (hrc : RcOk μ b.kind cs x s.rc) :
    CodeOut P base μ s s' (lone (b.atR a (.code (.rangeFunc fo params assign body) :: k)) (setRc cs x s.rc) w) b k cs x e fr' := by
  unfold rangeFuncD at h
  obtain ⟨d, s1, h1, h⟩ := DM.bind_some h
  obtain ⟨l, s2, h2, h⟩ := DM.bind_some h
  simp only [DM.lift_bind] at h
  obtain ⟨fv, hfv, h⟩ := h
  cases fv with
  | func g first captured =>
    simp only at h
    obtain ⟨r, s3, h3, h4⟩ := DM.bind_some h
    -- what is kept
    have kA : ∀ {t : St}, s2.ctr ≤ t.ctr → Fresh μ s.heap.get s.ctr t.ctr → _ := fun {t} hle hF' => enter_sim (P := P) (params := params) (assign := assign) (body := body) hb hR hg hf h1 h2 (hF'.fst hle)
    have kk1 := (Mono.rangeHeadD fr).keeps h1 hb
    have kk : Keeps s s2 := kk1.trans ((Mono.new _).keeps h2 kk1.bc)
    have k3 := (hK.mono _ _).keeps h3 kk.bc
    have k4 : Keeps s3 s' := by
      cases r with
      | pan v =>
        simp only at h4
        obtain ⟨q, rfl⟩ := DM.pure_some h4
        exact Keeps.refl k3.bc
      | ret v =>
        simp only at h4
        obtain ⟨o, s4, h5, h6⟩ := DM.bind_some h4
        obtain ⟨rfl, _⟩ := objD_some h5
        split at h6
        · simp only [DM.guard_bind] at h6
          obtain ⟨_, h6⟩ := h6
          obtain ⟨u, s5, h7, h8⟩ := DM.bind_some h6
          have k5 := (Mono.putObj _ _).keeps h7 k3.bc
          exact k5.trans ((Mono.pendingD _ _).keeps h8 k5.bc)
        · exact (DM.fail_some h6).elim
    obtain ⟨_, hrc2, ν, w2, i, mark, e1, e2, e3, e4, e5⟩ := kA (t := s') (Nat.le_trans k3.ctr k4.ctr) hF
    have hfv' := hf.ev hfv
    simp only [VR] at hfv'
    obtain ⟨xf, xc, hev, hx1, hx2⟩ := hfv'
    have hvs : VRs ν (first ++ (.yield l :: captured)) (xf ++ #[Value.func (.yield i.blk) #[] #[]] ++ xc).toList := by
      simp only [Array.toList_append, List.append_assoc]
      refine (VRs.mono e3.le _ _ hx1).append ?_
      refine ⟨_, _, rfl, ?_, VRs.mono e3.le _ _ hx2⟩
      simp only [VR]
      exact ⟨i, e4, rfl⟩
    have hf2 : FrR ν b { fr with defers := d.2 } { a with defers := mark ++ a.defers } := by
      have := hf.mono e3.le
      exact ⟨this.fn, this.env, e5, this.round, this.gl⟩
    obtain ⟨hrc3, hh⟩ := hK.of_fn h3 kk.bc e2 (hg.mono e3.le) (hF.snd e3 kk |>.fst k4.ctr) hvs
    have hnc : ∀ d r s k', (b.atR { a with defers := mark ++ a.defers } (.inRangeFunc i.blk :: k)).todo ≠ .call d true r s :: k' := by
      intro d r s k' h0
      simp [Frame.atR] at h0
    have hst := step_enterLoop (P := P) (b := b) (a := a) (k := k) (cs := setRc cs x s.rc) (w := w) (fo := fo) e1 hev
    have hq := hh (b.atR a (.code (.rangeFunc fo params assign body) :: k)) w (b.atR { a with defers := mark ++ a.defers } (.inRangeFunc i.blk :: k)) (setRc cs x s.rc) (callFunc g (xf ++ #[.func (.yield i.blk) #[] #[]] ++ xc)) (fun _ => rfl) hnc
    clear hh
    obtain ⟨ν3, w3, q1, q2, q3⟩ := hq hst
    have hx3 : Ext' μ ν3 s.ctr s3.ctr := e3.trans q2 kk.ctr k3.ctr
    have hrc13 : s3.rc = s.rc := hrc3.trans hrc2
    cases r with
    | pan v =>
      simp only at h4
      obtain ⟨q, rfl⟩ := DM.pure_some h4
      cases q
      obtain ⟨y, hy, hs⟩ := q3
      refine ⟨ν3, _, w3, q1, hx3, RcLe.of_eq hrc13, hf2.mono q2.le, .inRangeFunc i.blk :: k, y, hy, ?_⟩
      rw [hrc13, ← Frame.raise_atR]
      exact hs
    | ret v =>
      obtain ⟨y, hy, hs⟩ := q3
      simp only at h4
      obtain ⟨o, s4, h5, h6⟩ := DM.bind_some h4
      split at h6
      · rename_i st pd fn env n ps as bo dd
        simp only [DM.guard_bind] at h6
        obtain ⟨hst, h6⟩ := h6
        obtain ⟨u, s5, h7, h8⟩ := DM.bind_some h6
        obtain ⟨rfl, hgo, hrow, i', hi', hO⟩ := loop_of q1 h5 (by simp)
        rw [q2.le _ _ e4] at hi'
        cases hi'
        obtain ⟨tm, di, o1, o2, o3⟩ := hO
        obtain ⟨r1, r2, r3⟩ := putObj_rep (O := .loop { state := .exhausted, pending := pd, fn := fn, tmps := tm, params := ps.toArray, assign := as, body := bo, defers := di.blk }) q1 h7 hgo trivial hrow (q2.le _ _ e4) (by simp)
          ⟨tm, di, by simp [(Array.getElem?_eq_some_iff.1 o1).1], o2, o3⟩
        have hne : st ≠ .busy := by rintro rfl; cases hst
        have hend : (Instr.endLoop i.blk).run P w3 = .ok pd { w3 with heap := w3.heap.setIfInBounds i.blk (.loop { state := .exhausted, pending := pd, fn := fn, tmps := tm, params := ps.toArray, assign := as, body := bo, defers := di.blk }) } := by
          simp [Instr.endLoop, getLoop_of o1, hne, setObj_of o1 (fun _ _ _ hh => by cases hh)]
        have hfin : (b.atR { a with defers := mark ++ a.defers } (.inRangeFunc i.blk :: k)).finish y = b.atR { a with defers := mark ++ a.defers } (.endRangeFunc i.blk :: k) := rfl
        rw [hfin] at hs
        have hs2 := hs.trans (.one (step_endLoop (b := b) (a := { a with defers := mark ++ a.defers }) (k := k) (cs := setRc cs x s.rc) hend))
        have key : ∀ (ee : Ex), s5 = s' → e = ee → fr' = { fr with defers := d.2 } → Arr P (lone (b.atR a (.code (.rangeFunc fo params assign body) :: k)) (setRc cs x s.rc) w) b k (setRc cs x s.rc) ν3 { w3 with heap := w3.heap.setIfInBounds i.blk (.loop { state := .exhausted, pending := pd, fn := fn, tmps := tm, params := ps.toArray, assign := as, body := bo, defers := di.blk }) } { a with defers := mark ++ a.defers } ee →
            CodeOut P base μ s s' (lone (b.atR a (.code (.rangeFunc fo params assign body) :: k)) (setRc cs x s.rc) w) b k cs x e fr' := by
          rintro ee rfl rfl rfl harr
          have hr5 : s5.rc = s.rc := r3.trans hrc13
          refine ⟨ν3, _, _, r1, by rw [r2]; exact hx3, RcLe.of_eq hr5, hf2.mono q2.le, ?_⟩
          rw [hr5]; exact harr
        cases pd with
        | none =>
          unfold pendingD at h8
          obtain ⟨q, rfl⟩ := DM.pure_some h8
          cases q
          exact key .normal rfl rfl rfl hs2
        | some c =>
          cases c with
          | ret =>
            unfold pendingD at h8
            obtain ⟨q, rfl⟩ := DM.pure_some h8
            cases q
            exact key .ret rfl rfl rfl ⟨k, hs2⟩
          | exit id' =>
            unfold pendingD at h8
            obtain ⟨q, rfl⟩ := DM.pure_some h8
            cases q
            exact key (.exit id') rfl rfl rfl ⟨k, rfl, hs2⟩
          | _ => unfold pendingD at h8; cases h8
      · exact (DM.fail_some h6).elim
  | _ => dsimp only at h; cases h

/-! ### Code -/

theorem code_sim (hC : TypesOk P C) {K : CallFn} (hK : KOk P C base K) (fuel : Nat) {cs : List Frame} {x : Value} {b : Frame} : ∀ (c : Code) {k : List Item} {fr fr' : Fr} {s s' : St} {e : Ex} {a : Act} {μ : Mu} {w : World},
    codeD C K fuel c fr s = some ((e, fr'), s') → s.base ≤ s.ctr → Rep base μ s.heap.get w → GlOk C μ → FrR μ b fr a → Fresh μ s.heap.get s.ctr s'.ctr → RcOk μ b.kind cs x s.rc →
    CodeOut P base μ s s' (lone (b.atR a (.code c :: k)) (setRc cs x s.rc) w) b k cs x e fr'
  | .skip, k, fr, fr', s, s', e, a, μ, w, h, hb, hR, hg, hf, hF, hrc => by
    unfold codeD at h
    obtain ⟨q, rfl⟩ := DM.pure_some h
    cases q
    exact ⟨μ, a, w, hR, Ext'.refl _ _ _, RcLe.refl _, hf, .one stepR_skip⟩
  | .label l, k, fr, fr', s, s', e, a, μ, w, h, hb, hR, hg, hf, hF, hrc => by
    unfold codeD at h
    obtain ⟨q, rfl⟩ := DM.pure_some h
    cases q
    exact ⟨μ, a, w, hR, Ext'.refl _ _ _, RcLe.refl _, hf, .one stepR_label⟩
  | .region id ops draw, k, fr, fr', s, s', e, a, μ, w, h, hb, hR, hg, hf, hF, hrc => by
    unfold codeD at h
    cases draw with
    | false =>
      simp only at h
      have := seq_sim hC hK (cs := cs) (x := x) (k := k) (b := b) ops.toList 0 rfl h hb hR hg hf hF hrc
      refine CodeOut.head (.one stepR_region) ?_
      rw [show List.range ops.size = List.range' 0 ops.toList.length by rw [List.range_eq_range']; simp]
      exact this
    | true =>
      simp only [DM.guard_bind] at h
      obtain ⟨hdep, h⟩ := h
      obtain ⟨fr1, s1, h1, h2⟩ := DM.bind_some h
      obtain ⟨q, rfl⟩ := DM.pure_some h2
      cases q
      exact draw_sim hC hK hdep h1 hb hR hg hf hF hrc
  | .seq c1 c2, k, fr, fr', s, s', e, a, μ, w, h, hb, hR, hg, hf, hF, hrc => by
    unfold codeD at h
    obtain ⟨⟨e1, fr1⟩, s1, h1, h2⟩ := DM.bind_some h
    have k1 := (Mono.codeD hK.mono fuel c1 fr).keeps h1 hb
    refine CodeOut.head (.one stepR_seq) ?_
    cases e1 with
    | normal =>
      simp only at h2
      have k2 := (Mono.codeD hK.mono fuel c2 fr1).keeps h2 k1.bc
      obtain ⟨ν, a1, w1, p1, p2, p3, p4, p5⟩ := code_sim hC hK fuel c1 (k := .code c2 :: k) h1 hb hR hg hf (hF.fst k2.ctr) hrc
      exact CodeOut.trans p2 k1.ctr k2.ctr p3 p5 (code_sim hC hK fuel c2 h2 k1.bc p1 (hg.mono p2.le) p4 (hF.snd p2 k1) (RcOk.step p2.le p3 hrc))
    | exit id =>
      simp only at h2
      obtain ⟨q, rfl⟩ := DM.pure_some h2
      cases q
      obtain ⟨ν, a1, w1, p1, p2, p3, p4, k2, p5, p6⟩ := code_sim hC hK fuel c1 (k := .code c2 :: k) h1 hb hR hg hf hF hrc
      exact ⟨ν, a1, w1, p1, p2, p3, p4, k2, by rw [p5]; rfl, p6⟩
    | ret =>
      simp only at h2
      obtain ⟨q, rfl⟩ := DM.pure_some h2
      cases q
      obtain ⟨ν, a1, w1, p1, p2, p3, p4, p5⟩ := code_sim hC hK fuel c1 (k := .code c2 :: k) h1 hb hR hg hf hF hrc
      exact ⟨ν, a1, w1, p1, p2, p3, p4, p5⟩
    | pan v =>
      simp only at h2
      obtain ⟨q, rfl⟩ := DM.pure_some h2
      cases q
      obtain ⟨ν, a1, w1, p1, p2, p3, p4, p5⟩ := code_sim hC hK fuel c1 (k := .code c2 :: k) h1 hb hR hg hf hF hrc
      exact ⟨ν, a1, w1, p1, p2, p3, p4, p5⟩
  | .cond c c1 c2, k, fr, fr', s, s', e, a, μ, w, h, hb, hR, hg, hf, hF, hrc => by
    unfold codeD at h
    simp only [DM.lift_bind] at h
    obtain ⟨v, hv, h⟩ := h
    have hv' := hf.ev hv
    split at h
    · simp only [VR] at hv'
      exact CodeOut.head (.one (stepR_cond hv')) (code_sim hC hK fuel c1 h hb hR hg hf hF hrc)
    · simp only [VR] at hv'
      exact CodeOut.head (.one (stepR_cond hv')) (code_sim hC hK fuel c2 h hb hR hg hf hF hrc)
    · exact (DM.fail_some h).elim
  | .block id c, k, fr, fr', s, s', e, a, μ, w, h, hb, hR, hg, hf, hF, hrc => by
    unfold codeD at h
    obtain ⟨⟨e1, fr1⟩, s1, h1, h2⟩ := DM.bind_some h
    refine CodeOut.head (.one stepR_block) ?_
    have key := fun (hF : Fresh μ s.heap.get s.ctr s1.ctr) => code_sim hC hK fuel c (k := .inBlock id :: k) h1 hb hR hg hf hF hrc
    cases e1 with
    | normal =>
      simp only at h2
      obtain ⟨q, rfl⟩ := DM.pure_some h2
      cases q
      obtain ⟨ν, a1, w1, p1, p2, p3, p4, p5⟩ := key hF
      exact ⟨ν, a1, w1, p1, p2, p3, p4, p5.trans (.one stepR_inBlock)⟩
    | exit i =>
      simp only at h2
      cases hi : Nat.beq i id with
      | true =>
        rw [hi] at h2
        obtain ⟨q, rfl⟩ := DM.pure_some h2
        cases q
        obtain ⟨ν, a1, w1, p1, p2, p3, p4, k2, p5, p6⟩ := key hF
        have := Nat.beq_true hi
        subst this
        exact ⟨ν, a1, w1, p1, p2, p3, p4, p6.trans (.one (stepR_exit (by rw [p5]; simp [exitTo])))⟩
      | false =>
        rw [hi] at h2
        obtain ⟨q, rfl⟩ := DM.pure_some h2
        cases q
        obtain ⟨ν, a1, w1, p1, p2, p3, p4, k2, p5, p6⟩ := key hF
        have := Nat.beq_false hi
        exact ⟨ν, a1, w1, p1, p2, p3, p4, k2, by rw [p5]; simp [exitTo, Ne.symm this], p6⟩
    | ret =>
      simp only at h2
      obtain ⟨q, rfl⟩ := DM.pure_some h2
      cases q
      obtain ⟨ν, a1, w1, p1, p2, p3, p4, p5⟩ := key hF
      exact ⟨ν, a1, w1, p1, p2, p3, p4, p5⟩
    | pan v =>
      simp only at h2
      obtain ⟨q, rfl⟩ := DM.pure_some h2
      cases q
      obtain ⟨ν, a1, w1, p1, p2, p3, p4, p5⟩ := key hF
      exact ⟨ν, a1, w1, p1, p2, p3, p4, p5⟩
  | .loop c, k, fr, fr', s, s', e, a, μ, w, h, hb, hR, hg, hf, hF, hrc => by
    unfold codeD at h
    refine CodeOut.head (.one stepR_loop) ?_
    exact iter_sim (K := K) (body := codeD C K fuel c) (bc := c) (fun fr => Mono.codeD hK.mono fuel c fr) (fun h hb hR hg hf hF hrc => code_sim hC hK fuel c h hb hR hg hf hF hrc) fuel h hb hR hg hf hF hrc
  | .rangeFunc g ps as bo, k, fr, fr', s, s', e, a, μ, w, h, hb, hR, hg, hf, hF, hrc => by
    unfold codeD at h
    exact rangeFunc_sim hC hK h hb hR hg hf hF hrc
  | .exit id, k, fr, fr', s, s', e, a, μ, w, h, hb, hR, hg, hf, hF, hrc => by
    unfold codeD at h
    obtain ⟨q, rfl⟩ := DM.pure_some h
    cases q
    exact ⟨μ, a, w, hR, Ext'.refl _ _ _, RcLe.refl _, hf, k, rfl, Steps.refl _ _⟩
  | .ret, k, fr, fr', s, s', e, a, μ, w, h, hb, hR, hg, hf, hF, hrc => by
    unfold codeD at h
    obtain ⟨q, rfl⟩ := DM.pure_some h
    cases q
    exact ⟨μ, a, w, hR, Ext'.refl _ _ _, RcLe.refl _, hf, k, Steps.refl _ _⟩
  | .scope c, k, fr, fr', s, s', e, a, μ, w, h, hb, hR, hg, hf, hF, hrc => by
    unfold codeD at h; exact (DM.fail_some h).elim
  | .goto l, k, fr, fr', s, s', e, a, μ, w, h, hb, hR, hg, hf, hF, hrc => by
    unfold codeD at h; exact (DM.fail_some h).elim
  | .refuse y, k, fr, fr', s, s', e, a, μ, w, h, hb, hR, hg, hf, hF, hrc => by
    unfold codeD at h; exact (DM.fail_some h).elim

end Pd
