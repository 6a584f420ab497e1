/-
  Calls, in the machine: the evaluator is right.
-/
import Derived.Test.YteaddglfdjnbdaaGreatDoorPdCall
set_option linter.unusedVariables false
set_option linter.unusedSimpArgs false
namespace Pd
open Go

variable {P : Program} {C : Ctx} {base : World}

/-! ### Results -/

def resOne (tmps : Array Value) : ResultVar → Sem Value
  | .tmp t => pure (tmps.getD t undef)
  | .cell a t => do loadVar t (← asAddr (tmps.getD a undef))

theorem resultOne_sim (hC : TyOk P C) {μ : Mu} {b : Frame} {fr : Fr} {a : Act} (hf : FrR μ b fr a) {rv : ResultVar} {v : AV} {s s' : St} {w : World} (hR : Rep base μ s.heap.get w) (h : resultOne C fr rv s = some (v, s')) :
    s' = s ∧ ∃ y, (resOne a.tmps rv).run P w = .ok y w ∧ VR μ v y := by
  unfold resultOne at h
  cases rv with
  | tmp t =>
    simp only at h
    obtain ⟨he, rfl⟩ := DM.lift_some h
    exact ⟨rfl, _, rfl, hf.ev he⟩
  | cell ad t =>
    simp only [DM.lift_bind] at h
    obtain ⟨av, hav, h⟩ := h
    have he := hf.ev hav
    obtain ⟨rfl, y, h1, h2, h3⟩ := load_sim hC hR he h
    cases av with
    | ptr id off =>
      have he' := he
      simp only [VR] at he
      obtain ⟨i, hi, e⟩ := he
      obtain ⟨c, hc, hl⟩ := h1 _ e
      cases hc
      refine ⟨rfl, y, ?_, h3⟩
      have e' : a.tmps.getD ad undef = .pointer (some ⟨i.blk, i.off + off, none⟩) := e
      simp only [resOne, e', asAddr, Sem.run_bind, Sem.run_pure, Result.andThen_ok, hl]
    | _ => cases h

theorem results_list (hC : TyOk P C) {μ : Mu} {b : Frame} {fr : Fr} {a : Act} (hf : FrR μ b fr a) {w : World} : ∀ {rs : List ResultVar} {vs : List AV} {s s' : St}, Rep base μ s.heap.get w → resultsD C fr rs s = some (vs, s') →
    s' = s ∧ ∃ ys, (rs.mapM (resOne a.tmps)).run P w = .ok ys w ∧ VRs μ vs ys
  | [], vs, s, s', hR, h => by
    unfold resultsD at h
    obtain ⟨rfl, rfl⟩ := DM.pure_some h
    exact ⟨rfl, [], rfl, rfl⟩
  | r :: rs, vs, s, s', hR, h => by
    unfold resultsD at h
    obtain ⟨v, s1, h1, h2⟩ := DM.bind_some h
    obtain ⟨us, s2, h3, h4⟩ := DM.bind_some h2
    obtain ⟨rfl, rfl⟩ := DM.pure_some h4
    obtain ⟨rfl, y, e1, e2⟩ := resultOne_sim hC hf hR h1
    obtain ⟨rfl, ys, e3, e4⟩ := results_list hC hf hR h3
    refine ⟨rfl, y :: ys, ?_, _, _, rfl, e2, e4⟩
    simp only [List.mapM_cons, Sem.run_bind, e1, Result.andThen_ok, e3, Sem.run_pure]

theorem results_sim (hC : TyOk P C) {μ : Mu} {b : Frame} {fr : Fr} {a : Act} (hf : FrR μ b fr a) {w : World} {fn : Func} {vs : List AV} {s s' : St} (hR : Rep base μ s.heap.get w) (h : resultsD C fr fn.results.toList s = some (vs, s')) :
    s' = s ∧ ∃ y, (results fn a.tmps).run P w = .ok y w ∧ VR μ (oneOf vs) y := by
  obtain ⟨rfl, ys, h1, h2⟩ := results_list hC hf hR h
  have e : results fn a.tmps = (do
      let vs ← fn.results.mapM (resOne a.tmps)
      pure (if h : vs.size = 1 then vs[0] else .tuple vs)) := by
    unfold results
    rfl
  have hrun : (fn.results.mapM (resOne a.tmps)).run P w = .ok ys.toArray w := by
    rw [Array.mapM_eq_mapM_toList]
    simp [h1]
  refine ⟨rfl, if h : ys.toArray.size = 1 then ys.toArray[0] else .tuple ys.toArray, by rw [e]; simp only [Sem.run_bind, hrun, Result.andThen_ok, Sem.run_pure], ?_⟩
  cases vs with
  | nil =>
    simp only [VRs] at h2
    subst h2
    simp only [oneOf, VR]
    exact ⟨#[], by simp, rfl⟩
  | cons v vs =>
    obtain ⟨y, ys', rfl, h3, h4⟩ := h2
    cases vs with
    | nil =>
      simp only [VRs] at h4
      subst h4
      simpa [oneOf] using h3
    | cons u us =>
      obtain ⟨z, zs, rfl, h5, h6⟩ := h4
      simp only [oneOf, VR]
      exact ⟨(y :: z :: zs).toArray, by simp, _, _, rfl, h3, _, _, rfl, h5, h6⟩

/-! ### Arguments -/

theorem envOf_get : ∀ (vs : List AV) (i : Nat) (t : Tr AV) (j : Nat), (envOf vs i t).get j = if i ≤ j ∧ j < i + vs.length then vs[j - i]? else t.get j
  | [], i, t, j => by
    unfold envOf
    rw [if_neg (by simp only [List.length_nil]; omega)]
  | v :: vs, i, t, j => by
    unfold envOf
    rw [envOf_get vs (i + 1) (t.set i (some v)) j, Tr.get_set]
    by_cases h1 : i + 1 ≤ j ∧ j < i + 1 + vs.length
    · rw [if_pos h1, if_pos (by simp; omega), show j - i = (j - (i + 1)) + 1 by omega]
      simp
    · rw [if_neg h1]
      by_cases h2 : j = i
      · subst h2; rw [if_pos rfl, if_pos (by simp)]; simp
      · rw [if_neg h2, if_neg (by simp at h1 ⊢; omega)]

theorem enter_frame {f : FuncId} {fn : Func} {c : Code} {vs : Array Value} {kind : CallKind} (hf : P.funcs[f]? = some fn) (hb : fn.body = some c) :
    Frame.enter P f vs kind = ({ (default : Frame) with fn := f, kind := kind } : Frame).atR { tmps := vs ++ Array.replicate (fn.ntmps - vs.size) undef, defers := [] } [.code c] := by
  simp [Frame.enter, Frame.atR, hf, hb]
  rfl

theorem args_env {μ : Mu} {args : List AV} {vs : Array Value} (hv : VRs μ args vs.toList) (n : Nat) : EnvR μ (envOf args 0 .nil) (Nat.max args.length n) (vs ++ Array.replicate (n - vs.size) undef) := by
  have hl := hv.length
  simp only [Array.length_toList] at hl
  refine ⟨?_, fun t => ?_⟩
  · simp only [Array.size_append, Array.size_replicate]
    rw [hl]
    show _ = max vs.size n
    omega
  · rw [envOf_get]
    simp only [Nat.zero_le, true_and, Nat.zero_add, Nat.sub_zero, Tr.get_nil]
    by_cases h : t < args.length
    · rw [if_pos h]
      obtain ⟨y, hy, hr⟩ := hv.get (List.getElem?_eq_getElem h)
      rw [List.getElem?_eq_getElem h]
      simp only [Option.getD_some]
      have : (vs ++ Array.replicate (n - vs.size) undef)[t]? = some y := by
        rw [Array.getElem?_append_left (by omega)]
        simpa using hy
      rw [this]
      exact hr
    · rw [if_neg h]
      simp only [Option.getD_none]
      have : ((vs ++ Array.replicate (n - vs.size) undef)[t]?).getD undef = undef := by
        rw [Array.getElem?_append_right (by omega), Array.getElem?_replicate]
        split <;> rfl
      rw [this]
      exact undef_rel μ

theorem leave_some {K : CallFn} {rs : List ResultVar} {ex : Ex} {fr : Fr} {s s' : St} {r : Res} (h : leaveD C K rs ex fr s = some (r, s')) :
    ∃ p q s1, ((p = none ∧ (ex = .normal ∨ ex = .ret)) ∨ ∃ v, p = some v ∧ ex = .pan v) ∧ unwindD K fr.defers p s = some (q, s1) ∧
      ((q = none ∧ ∃ vs, resultsD C fr rs s1 = some (vs, s') ∧ r = .ret (oneOf vs)) ∨ ∃ v, q = some v ∧ r = .pan v ∧ s' = s1) := by
  have key : ∀ (p : Option AV), (do
      match ← unwindD K fr.defers p with
      | none => do
        let vs ← resultsD C fr rs
        DM.pure (.ret (oneOf vs))
      | some v => DM.pure (.pan v) : DM Res) s = some (r, s') →
      ∃ q s1, unwindD K fr.defers p s = some (q, s1) ∧ ((q = none ∧ ∃ vs, resultsD C fr rs s1 = some (vs, s') ∧ r = .ret (oneOf vs)) ∨ ∃ v, q = some v ∧ r = .pan v ∧ s' = s1) := by
    intro p h
    obtain ⟨q, s1, h1, h2⟩ := DM.bind_some h
    refine ⟨q, s1, h1, ?_⟩
    cases q with
    | none =>
      simp only at h2
      obtain ⟨vs, s2, h3, h4⟩ := DM.bind_some h2
      obtain ⟨rfl, rfl⟩ := DM.pure_some h4
      exact .inl ⟨rfl, vs, h3, rfl⟩
    | some v =>
      simp only at h2
      obtain ⟨rfl, rfl⟩ := DM.pure_some h2
      exact .inr ⟨v, rfl, rfl, rfl⟩
  unfold leaveD at h
  cases ex with
  | normal =>
    simp only at h
    rw [DM.pure_bind] at h
    obtain ⟨q, s1, h1, h2⟩ := key none h
    exact ⟨none, q, s1, .inl ⟨rfl, .inl rfl⟩, h1, h2⟩
  | ret =>
    simp only at h
    rw [DM.pure_bind] at h
    obtain ⟨q, s1, h1, h2⟩ := key none h
    exact ⟨none, q, s1, .inl ⟨rfl, .inr rfl⟩, h1, h2⟩
  | pan v =>
    simp only at h
    rw [DM.pure_bind] at h
    obtain ⟨q, s1, h1, h2⟩ := key (some v) h
    exact ⟨some v, q, s1, .inr ⟨v, rfl, rfl⟩, h1, h2⟩
  | exit id =>
    simp only at h
    obtain ⟨_, _, h1, _⟩ := DM.bind_some h
    exact (DM.fail_some h1).elim

/-! ### The body of a function -/

theorem body_sim (hC : ProgOk P C) {K KD : CallFn} (hK : KOk P C base K) (hKD : DOk P C base KD) {fuel f : Nat} {fn : Func} {c : Code} (hfn : P.funcs[f]? = some fn) (hnm : fn.name ≠ "runtime.NumGoroutine") (hb : fn.body = some c) {args : List AV} {s s' : St} {r : Res}
    (h : (do
      let (ex, fr) ← codeD C K fuel c { fn := f, env := envOf args 0 .nil, n := Nat.max args.length fn.ntmps, defers := [], roundOf := none, gl := C.gl }
      leaveD C KD fn.results.toList ex fr : DM Res) s = some (r, s')) (hbc : s.base ≤ s.ctr) {μ : Mu} {w : World} {vs : Array Value} (hR : Rep base μ s.heap.get w) (hg : GlOk C μ) (hF : Fresh μ s.heap.get s.ctr s'.ctr) (hv : VRs μ args vs.toList)
    {kind : CallKind} {cs : List Frame} {x : Value} (hrc : RcOk μ kind cs x s.rc) : FnOut P base μ s s' w f vs kind cs x r := by
  obtain ⟨⟨ex, fr⟩, s1, h1, h2⟩ := DM.bind_some h
  simp only at h2
  have k1 := (Mono.codeD hK.mono fuel c _).keeps h1 hbc
  have k2 := (Mono.leaveD hKD.mono fn.results.toList ex fr).keeps h2 k1.bc
  obtain ⟨p, q, s2, hp, hu, hq⟩ := leave_some h2
  have k3 := (Mono.unwindD hKD.mono fr.defers p).keeps hu k1.bc
  let b : Frame := { (default : Frame) with fn := f, kind := kind }
  have hf0 : FrR μ b { fn := f, env := envOf args 0 .nil, n := Nat.max args.length fn.ntmps, defers := [], roundOf := none, gl := C.gl } { tmps := vs ++ Array.replicate (fn.ntmps - vs.size) undef, defers := [] } :=
    ⟨rfl, args_env hv _, rfl, rfl, hg⟩
  obtain ⟨ν, a', w1, p1, p2, p3, p4, p5⟩ := code_sim hC.toTypesOk hK fuel (cs := cs) (x := x) (b := b) c (k := []) h1 hbc hR hg hf0 (hF.fst k2.ctr) hrc
  have hmode : ∃ todo mode, ModeOk ν p mode ∧ Steps P (lone (Frame.enter P f vs kind) (setRc cs x s.rc) w) (lone { b.atR a' todo with mode := mode } (setRc cs x s1.rc) w1) := by
    rw [enter_frame hfn hb]
    rcases hp with ⟨rfl, rfl | rfl⟩ | ⟨v, rfl, rfl⟩
    · exact ⟨[], .returning, rfl, Steps.trans p5 (.one (stepR_end rfl))⟩
    · obtain ⟨k2, hs⟩ := p5
      exact ⟨_, .returning, rfl, hs.trans (.one (stepR_ret rfl))⟩
    · obtain ⟨todo, y, hy, hs⟩ := p5
      exact ⟨todo, _, ⟨y, rfl, hy⟩, hs⟩
  obtain ⟨todo, mode, hmo, hst⟩ := hmode
  have hs2 : s2.ctr ≤ s'.ctr := by
    rcases hq with ⟨rfl, us, h3, rfl⟩ | ⟨v, rfl, rfl, rfl⟩
    · exact ((Mono.resultsD fr fn.results.toList).keeps h3 k3.bc).ctr
    · exact Nat.le_refl _
  obtain ⟨q0, ν2, w2, mode2, q1, q2, q3, q4⟩ := unwind_sim hKD (cs := setRc cs x s1.rc) fr.defers (fr := { b.atR a' todo with mode := mode }) hu k1.bc p1 (hg.mono p2.le) ((hF.snd p2 k1).fst hs2) p4.defs hmo
  have hrc2 : s2.rc = s1.rc := q0
  rcases hq with ⟨rfl, us, h3, rfl⟩ | ⟨v, rfl, rfl, rfl⟩
  · obtain ⟨rfl, y, e1, e2⟩ := results_sim hC.toTyOk (p4.mono q2.le) q1 h3
    refine ⟨ν2, w2, q1, p2.trans q2 k1.ctr k3.ctr, by rw [hrc2]; exact p3, .inr ⟨run_callFunc_enter hfn hnm hb, _, by rw [hrc2]; exact hst.trans q4, rfl, ?_⟩⟩
    simp only [ModeOk] at q3
    subst q3
    exact ⟨rfl, rfl, rfl, fn, y, hfn, e1, e2⟩
  · obtain ⟨y, rfl, hy⟩ := q3
    refine ⟨ν2, w2, q1, p2.trans q2 k1.ctr k3.ctr, by rw [hrc2]; exact p3, .inr ⟨run_callFunc_enter hfn hnm hb, _, by rw [hrc2]; exact hst.trans q4, rfl, ?_⟩⟩
    exact ⟨rfl, rfl, ⟨fn, hfn⟩, y, rfl, hy⟩

/-! ### A round of a loop -/

theorem setParams_sim {μ : Mu} {b : Frame} {ds : List Deferred} : ∀ {ts : List Tmp} {vs : List AV} {fr fr' : Fr} {T : Array Value} {xs : List Value}, setParams ts vs fr = some fr' → FrR μ b fr { tmps := T, defers := ds } → VRs μ vs xs →
    ts.length = xs.length ∧ FrR μ b fr' { tmps := (ts.zip xs).foldl (fun tmps p => tmps.setIfInBounds p.1 p.2) T, defers := ds }
  | [], [], fr, fr', T, xs, h, hf, hv => by
    simp only [setParams, Option.some.injEq] at h
    subst h
    simp only [VRs] at hv
    subst hv
    exact ⟨rfl, hf⟩
  | t :: ts, v :: vs, fr, fr', T, xs, h, hf, hv => by
    obtain ⟨x, xs, rfl, h1, h2⟩ := hv
    unfold setParams at h
    split at h
    · cases h
    · rename_i fr1 hp
      obtain ⟨e1, e2⟩ := setParams_sim h (hf.put hp h1) h2
      exact ⟨by simp [e1], e2⟩
  | [], v :: vs, fr, fr', T, xs, h, _, _ => by simp [setParams] at h
  | t :: ts, [], fr, fr', T, xs, h, _, _ => by simp [setParams] at h

/-- How a loop stands behind a round. -/
def afterSt (jump : Option Code) : LoopState :=
  match jump with
  | none => .ready
  | some _ => .done

theorem afterSt_eq (jump : Option Code) : (if jump.isNone = true then LoopState.ready else LoopState.done) = afterSt jump := by cases jump <;> rfl

theorem round_sim (hC : ProgOk P C) {K : CallFn} (hK : KOk P C base K) {fuel l : Nat} {args : List AV} {s s' : St} {r : Res} (h : roundD C K fuel l args s = some (r, s')) (hbc : s.base ≤ s.ctr) (hrc : s.rc = none)
    {μ : Mu} {w : World} {vs : Array Value} (hR : Rep base μ s.heap.get w) (hg : GlOk C μ) (hF : Fresh μ s.heap.get s.ctr s'.ctr) (hv : VRs μ args vs.toList) (c : Frame) (cs : List Frame) : YieldOut P base μ s s' w l vs r c cs := by
  unfold roundD at h
  replace h := DM.bind_some h
  obtain ⟨o, s0, h1, h⟩ := h
  split at h
  · rename_i st pd fn env n ps as bo dd
    obtain ⟨rfl, hgo, hrow, i, hi, hO⟩ := loop_of hR h1 (by simp)
    obtain ⟨T, di, o1, o2, o3⟩ := hO
    simp only [DM.lift_bind] at h
    obtain ⟨fr0, hps, h⟩ := h
    let b : Frame := { (default : Frame) with fn := fn, kind := .normal, roundOf := some i.blk }
    have hf0 : FrR μ b { fn := fn, env := env, n := n, defers := [], roundOf := some l, gl := C.gl } { tmps := T, defers := [] } := ⟨rfl, o2, rfl, ⟨i, hi, rfl⟩, hg⟩
    obtain ⟨e1, hf1⟩ := setParams_sim hps hf0 hv
    replace h := DM.bind_some h
    obtain ⟨⟨ex1, fr1⟩, s1, h2, h⟩ := h
    have k1 := (Mono.codeD hK.mono fuel as fr0).keeps h2 hbc
    cases ex1 with
    | normal =>
      simp only at h
      replace h := DM.bind_some h
      obtain ⟨o', s1', h3, h⟩ := h
      split at h
      · rename_i pd2 fn2 env2 n2 ps2 as2 bo2 dd2
        replace h := DM.bind_some h
        obtain ⟨u, s2, h4, h⟩ := h
        replace h := DM.bind_some h
        obtain ⟨⟨ex, fr2⟩, s3, h5, h⟩ := h
        simp only [DM.guard_bind] at h
        obtain ⟨hde, h⟩ := h
        obtain ⟨hs1', hgo1, hrow1⟩ : s1' = s1 ∧ s1.heap.get l = some (.loop .ready pd2 fn2 env2 n2 ps2 as2 bo2 dd2) ∧ isRow (some (AObj.loop .ready pd2 fn2 env2 n2 ps2 as2 bo2 dd2)) = false := by
          obtain ⟨a1, a2⟩ := objD_some h3
          obtain ⟨a3, a4⟩ := St.mt_ob a2
          exact ⟨a1, a3, a4⟩
        subst hs1'
        have k2 := (Mono.putObj _ _).keeps h4 k1.bc
        have k3 := (Mono.codeD hK.mono fuel bo fr1).keeps h5 k2.bc
        -- the end of the round
        have hend : ∃ jump s4, ((jump = none ∧ ex = .normal) ∨ (jump = some Code.ret ∧ ex = .ret) ∨ ∃ id, jump = some (Code.exit id) ∧ ex = .exit id) ∧ ∃ st3 pd3 fn3 env3 n3 ps3 as3 bo3 dd3, objD l s3 = some (.loop st3 pd3 fn3 env3 n3 ps3 as3 bo3 dd3, s3) ∧
            putObj l (some (.loop (afterSt jump) jump fn3 env3 n3 ps3 as3 bo3 dd3)) s3 = some ((), s4) ∧ r = .ret (.bool jump.isNone) ∧ s' = s4 := by
          have key : ∀ (jump : Option Code), (do
              match ← objD l with
              | .loop _ _ fn env n ps a b d => do
                putObj l (some (.loop (match jump with | none => .ready | some _ => .done) jump fn env n ps a b d))
                DM.pure (.ret (.bool jump.isNone))
              | _ => DM.fail : DM Res) s3 = some (r, s') →
              ∃ s4 st3 pd3 fn3 env3 n3 ps3 as3 bo3 dd3, objD l s3 = some (.loop st3 pd3 fn3 env3 n3 ps3 as3 bo3 dd3, s3) ∧
                putObj l (some (.loop (afterSt jump) jump fn3 env3 n3 ps3 as3 bo3 dd3)) s3 = some ((), s4) ∧ r = .ret (.bool jump.isNone) ∧ s' = s4 := by
            intro jump hh
            obtain ⟨o3, s5, h6, h7⟩ := DM.bind_some hh
            obtain ⟨rfl, _⟩ := objD_some h6
            split at h7
            · obtain ⟨u, s6, h8, h9⟩ := DM.bind_some h7
              obtain ⟨rfl, rfl⟩ := DM.pure_some h9
              exact ⟨_, _, _, _, _, _, _, _, _, _, h6, h8, rfl, rfl⟩
            · exact (DM.fail_some h7).elim
          cases ex with
          | normal =>
            simp only at h
            rw [DM.pure_bind] at h
            obtain ⟨s4, rest⟩ := key none h
            exact ⟨none, s4, .inl ⟨rfl, rfl⟩, by obtain ⟨c1, c2, c3, c4, c5, c6, c7, c8, c9, d1⟩ := rest; exact ⟨c1, c2, c3, c4, c5, c6, c7, c8, c9, d1⟩⟩
          | ret =>
            simp only at h
            rw [DM.pure_bind] at h
            obtain ⟨s4, rest⟩ := key (some .ret) h
            exact ⟨some .ret, s4, .inr (.inl ⟨rfl, rfl⟩), by obtain ⟨c1, c2, c3, c4, c5, c6, c7, c8, c9, d1⟩ := rest; exact ⟨c1, c2, c3, c4, c5, c6, c7, c8, c9, d1⟩⟩
          | exit id =>
            simp only at h
            rw [DM.pure_bind] at h
            obtain ⟨s4, rest⟩ := key (some (.exit id)) h
            exact ⟨some (.exit id), s4, .inr (.inr ⟨id, rfl, rfl⟩), by obtain ⟨c1, c2, c3, c4, c5, c6, c7, c8, c9, d1⟩ := rest; exact ⟨c1, c2, c3, c4, c5, c6, c7, c8, c9, d1⟩⟩
          | pan v =>
            simp only at h
            obtain ⟨_, _, h6, _⟩ := DM.bind_some h
            exact (DM.fail_some h6).elim
        obtain ⟨jump, s4, hj, st3, pd3, fn3, env3, n3, ps3, as3, bo3, dd3, h6, h7, hr0, hs0⟩ := hend
        subst hr0
        subst hs0
        have k4 := (Mono.putObj _ _).keeps h7 k3.bc
        -- the machine
        have hF1 : Fresh μ s0.heap.get s0.ctr s1'.ctr := hF.fst (Nat.le_trans k2.ctr (Nat.le_trans k3.ctr k4.ctr))
        obtain ⟨ν, a1, w1, p1, p2, p3, p4, p5⟩ := code_sim hC.toTypesOk hK fuel (cs := c :: cs) (x := undef) (b := b) as (k := [.beginRound, .code bo]) h2 hbc hR hg hf1 hF1 (by rw [hrc]; exact .inl rfl)
        rw [hrc] at p3 p5
        simp only [RcLe] at p3
        rw [p3] at p5
        obtain ⟨i2, hi2, hO2⟩ := p1.obj l _ hgo1 trivial (by simp)
        rw [p2.le _ _ hi] at hi2; cases hi2
        obtain ⟨T2, di2, u1, u2, u3⟩ := hO2
        obtain ⟨v1, v2, v3⟩ := putObj_rep (O := .loop { state := .busy, pending := pd2, fn := fn2, tmps := T2, params := ps2.toArray, assign := as2, body := bo2, defers := di2.blk }) p1 h4 hgo1 trivial hrow1 (p2.le _ _ hi) (by simp)
          ⟨T2, di2, by simp [(Array.getElem?_eq_some_iff.1 u1).1], u2, u3⟩
        have hbegin : (Instr.beginRound i.blk).run P w1 = .ok () { w1 with heap := w1.heap.setIfInBounds i.blk (.loop { state := .busy, pending := pd2, fn := fn2, tmps := T2, params := ps2.toArray, assign := as2, body := bo2, defers := di2.blk }) } := by
          simp [Instr.beginRound, getLoop_of u1, setObj_of u1 (fun _ _ _ hh => by cases hh)]
        have st1 := p5.trans (.one (stepR_beginRound (b := b) (k := [.code bo]) (cs := c :: cs) (l := i.blk) rfl hbegin))
        have hFs2 : Fresh ν s2.heap.get s2.ctr s'.ctr := by
          have := (hF.snd p2 k1)
          intro id hl hh
          obtain ⟨x1, x2⟩ := this id (by rw [← v2]; exact hl) hh
          exact ⟨x1, by rw [k2.heap id hl]; exact x2⟩
        obtain ⟨ν2, a2, w2, q1, q2, q3, q4, q5⟩ := code_sim hC.toTypesOk hK fuel (cs := c :: cs) (x := undef) (b := b) bo (k := []) h5 k2.bc v1 (hg.mono p2.le) p4 (hFs2.fst k4.ctr) (by rw [v3, p3]; exact .inl rfl)
        rw [v3, p3] at q3 q5
        simp only [RcLe] at q3
        rw [q3] at q5
        obtain ⟨_, hgo3, hrow3, i3, hi3, hO3⟩ := loop_of q1 h6 (by simp)
        rw [q2.le _ _ (p2.le _ _ hi)] at hi3; cases hi3
        obtain ⟨T3, di3, x1, x2, x3⟩ := hO3
        obtain ⟨y1, y2, y3⟩ := putObj_rep (O := .loop { state := (afterSt jump), pending := jump, fn := fn3, tmps := T3, params := ps3.toArray, assign := as3, body := bo3, defers := di3.blk }) q1 h7 hgo3 trivial hrow3 (q2.le _ _ (p2.le _ _ hi)) (by simp)
          ⟨T3, di3, by simp [(Array.getElem?_eq_some_iff.1 x1).1], x2, x3⟩
        have hendr : (Instr.endRound i.blk jump).run P w2 = .ok (.bool jump.isNone) { w2 with heap := w2.heap.setIfInBounds i.blk (.loop { state := (afterSt jump), pending := jump, fn := fn3, tmps := T3, params := ps3.toArray, assign := as3, body := bo3, defers := di3.blk }) } := by
          simp only [Instr.endRound, Sem.run_bind, getLoop_of x1, Result.andThen_ok, afterSt_eq, setObj_of x1 (fun _ _ _ hh => by cases hh), Sem.run_pure]
        have hfin : Steps P (lone (b.atR a1 [.code bo]) (c :: cs) { w1 with heap := w1.heap.setIfInBounds i.blk (.loop { state := .busy, pending := pd2, fn := fn2, tmps := T2, params := ps2.toArray, assign := as2, body := bo2, defers := di2.blk }) }) (lone (c.finish (.bool jump.isNone)) cs { w2 with heap := w2.heap.setIfInBounds i.blk (.loop { state := (afterSt jump), pending := jump, fn := fn3, tmps := T3, params := ps3.toArray, assign := as3, body := bo3, defers := di3.blk }) }) := by
          rcases hj with ⟨rfl, rfl⟩ | ⟨rfl, rfl⟩ | ⟨id, rfl, rfl⟩
          · exact Steps.trans q5 (.one (stepR_round_end (l := i.blk) rfl rfl hendr))
          · obtain ⟨k2, hs⟩ := q5
            exact hs.trans (.one (stepR_round_ret (l := i.blk) rfl rfl hendr))
          · obtain ⟨k2, hx, hs⟩ := q5
            exact hs.trans (.one (stepR_round_exit (l := i.blk) rfl rfl (by rw [hx]; rfl) hendr))
        refine ⟨ν2, _, i, .bool jump.isNone, .bool jump.isNone, y1, ?_, rfl, by simp only [VR], hi, fn, (ps.zip vs.toList).foldl (fun tmps p => tmps.setIfInBounds p.1 p.2) T, as, bo, ?_, ?_⟩
        · have := (p2.trans (hi := s3.ctr) (c := ν2) (by rw [← v2]; exact q2) k1.ctr (by rw [← v2]; exact k3.ctr))
          rw [y2]; exact this
        · have hsz : ¬(vs.size ≠ ps.toArray.size) := by simp at e1 ⊢; omega
          simp only [Instr.yield, Sem.run_bind, getLoop_of o1, Result.andThen_ok, hsz, if_false, Sem.run_pure]
          congr 2
          rw [← Array.foldl_toList]
          simp
        · exact st1.trans hfin
      · exact (DM.fail_some h).elim
    | exit id => exact (DM.fail_some h).elim
    | ret => exact (DM.fail_some h).elim
    | pan v => exact (DM.fail_some h).elim
  · exact (DM.fail_some h).elim

/-! ### The evaluator -/

theorem callD_ok (hC : ProgOk P C) (hP : PrimOk P C base) : ∀ n, DOk P C base (callD C n)
  | 0 => ⟨Mono.callD hP.mono 0, fun f args s r s' h => (DM.fail_some (by unfold callD at h; exact h)).elim, fun l args s r s' h => (DM.fail_some (by unfold callD at h; exact h)).elim⟩
  | n + 1 => by
    have ih := callD_ok hC hP n
    have hK := ih.plain
    refine ⟨Mono.callD hP.mono (n + 1), ?_, ?_⟩
    · intro f args s r s' h hb μ w vs hR hg hF hv kind cs x hrc
      unfold callD callBody at h
      cases hp : C.prim f with
      | some p =>
        rw [hp] at h
        exact hP.fn f p hp args s r s' h hb μ w vs hR hg hF hv kind cs x hrc
      | none =>
        rw [hp] at h
        simp only at h
        cases he : C.ext f with
        | some e =>
          rw [he] at h
          exact ext_sim (hC.ext f e he) h hR hF hv
        | none =>
          rw [he] at h
          simp only at h
          cases hf : C.fn f with
          | none => rw [hf] at h; exact (DM.fail_some h).elim
          | some fn =>
            rw [hf] at h
            simp only at h
            obtain ⟨e1, e2⟩ := hC.fn f fn hf
            cases hbo : fn.body with
            | none => rw [hbo] at h; exact (DM.fail_some h).elim
            | some c =>
              rw [hbo] at h
              exact body_sim hC hK ih e1 e2 hbo h hb hR hg hF hv hrc
    · intro l args s r s' h hb hrc μ w vs hR hg hF hv c cs
      unfold callD at h
      exact round_sim hC hK h hb hrc hR hg hF hv c cs

/-- A call of a function with a body, in the machine. -/
theorem calls_of (hC : ProgOk P C) (hP : PrimOk P C base) {n f : Nat} {fn : Func} {c : Code} (hf : P.funcs[f]? = some fn) (hb : fn.body = some c) {args : List AV} {s s' : St} {a : AV} (h : callTop C n f args s = some (.ret a, s')) (hbc : s.base ≤ s.ctr)
    {μ : Mu} {w : World} {vs : Array Value} (hR : Rep base μ s.heap.get w) (hg : GlOk C μ) (hF : Fresh μ s.heap.get s.ctr s'.ctr) (hv : VRs μ args vs.toList) :
    Calls P f vs w fun e w' => ∃ ν y, e = .returned y ∧ VR ν a y ∧ Rep base ν s'.heap.get w' ∧ Ext' μ ν s.ctr s'.ctr := by
  obtain ⟨s1, h1, rfl⟩ := plain_some h
  intro cs
  obtain ⟨ν, w', q1, q2, q3, q4⟩ := (callD_ok hC hP n).fn f args _ _ s1 h1 hbc μ w vs hR hg hF hv .normal cs undef (.inl rfl)
  rcases q4 with ⟨a', y, hra, hy, _, hrun⟩ | ⟨hrun, fr, hsteps, hfn, l1, l2, l3, fn', y, l4, l5, l6⟩
  · exfalso
    by_cases hn : fn.name = "runtime.NumGoroutine"
    · simp [callFunc, hf, hn] at hrun
    · rw [run_callFunc_enter hf hn hb] at hrun
      cases hrun
  · have hnone : s1.rc = none := q3
    rw [hnone] at hsteps
    refine ⟨.returned y, w', fr, ⟨ν, y, rfl, l6, q1, q2⟩, hsteps, hfn, l1, l2, l3, fn', l4, l5⟩

end Pd
