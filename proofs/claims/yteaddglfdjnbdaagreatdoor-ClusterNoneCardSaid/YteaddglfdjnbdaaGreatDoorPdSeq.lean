/-
  Regions in the order of the text, in the machine.
-/
import Derived.Test.YteaddglfdjnbdaaGreatDoorPdStep
import Derived.Test.YteaddglfdjnbdaaGreatDoorPdMono3
set_option linter.unusedVariables false
set_option linter.unusedSimpArgs false
namespace Pd
open Go

variable {P : Program} {C : Ctx} {base : World}

theorem VR.isBool {μ : Mu} {a : AV} {b : Bool} (h : VR μ a (.bool b)) : a = .bool b := by
  cases a with
  | map o => cases o <;> simp [VR] at h
  | _ => simp [VR] at h <;> first | (subst h; rfl) | skip

theorem wanted_eq {μ : Mu} {b : Frame} {fr : Fr} {a : Act} (hf : FrR μ b fr a) (ops : Array Oper) (o : Oper) : Region.wanted o (yielded ops a.tmps) = wantedD fr ops o := by
  unfold Region.wanted wantedD
  cases hg : o.guard with
  | none => rfl
  | some g =>
    obtain ⟨j, want⟩ := g
    simp only [yielded, Array.getElem?_toList]
    cases hj : ops[j]? with
    | none => simp
    | some p =>
      simp only [Option.bind_some]
      cases hd : p.dst with
      | none => simp
      | some d =>
        simp only [Option.bind_some]
        have hr := hf.env.2 d
        cases he : fr.env.get d with
        | none =>
          rw [he] at hr
          simp only [Option.getD_none] at hr
          cases ht : a.tmps[d]? with
          | none => simp
          | some v =>
            rw [ht] at hr
            simp only [Option.getD_some] at hr
            cases v <;> try simp
            have := hr.isBool
            cases this
        | some v =>
          rw [he] at hr
          simp only [Option.getD_some] at hr
          cases ht : a.tmps[d]? with
          | none =>
            rw [ht] at hr
            cases v <;> try simp
            simp only [VR, Option.getD_none] at hr
            cases hr
          | some u =>
            rw [ht] at hr
            simp only [Option.getD_some] at hr
            cases u with
            | bool q =>
              have := hr.isBool
              subst this
              simp
            | _ =>
              cases v <;> try simp
              simp only [VR] at hr
              cases hr

/-- How code ends, in the machine. -/
def Arr (P : Program) (m : Machine) (b : Frame) (k : List Item) (cs : List Frame) (ν : Mu) (w : World) (a : Act) : Ex → Prop
  | .normal => Steps P m (lone (b.atR a k) cs w)
  | .exit id => ∃ k2, exitTo id k2 = exitTo id k ∧ Steps P m (lone (b.atR a (.code (.exit id) :: k2)) cs w)
  | .ret => ∃ k2, Steps P m (lone (b.atR a (.code .ret :: k2)) cs w)
  | .pan v => ∃ todo y, VR ν v y ∧ Steps P m (lone { b.atR a todo with mode := .panicking [{ v := y, recovered := false }] } cs w)

theorem Arr.head {m m' : Machine} {b : Frame} {k : List Item} {cs : List Frame} {ν : Mu} {w : World} {a : Act} {e : Ex} (h : Steps P m m') (h' : Arr P m' b k cs ν w a e) : Arr P m b k cs ν w a e := by
  cases e with
  | normal => exact h.trans h'
  | exit id => obtain ⟨k2, e, h2⟩ := h'; exact ⟨k2, e, h.trans h2⟩
  | ret => obtain ⟨k2, h2⟩ := h'; exact ⟨k2, h.trans h2⟩
  | pan v => obtain ⟨t, y, hy, h2⟩ := h'; exact ⟨t, y, hy, h.trans h2⟩

def CodeOut (P : Program) (base : World) (μ : Mu) (s s' : St) (m : Machine) (b : Frame) (k : List Item) (cs : List Frame) (x : Value) (e : Ex) (fr' : Fr) : Prop :=
  ∃ ν a' w', Rep base ν s'.heap.get w' ∧ Ext' μ ν s.ctr s'.ctr ∧ RcLe s.rc s'.rc ∧ FrR ν b fr' a' ∧ Arr P m b k (setRc cs x s'.rc) ν w' a' e

theorem CodeOut.head {μ : Mu} {s s' : St} {m m' : Machine} {b : Frame} {k : List Item} {cs : List Frame} {x : Value} {e : Ex} {fr' : Fr} (h : Steps P m m') (h' : CodeOut P base μ s s' m' b k cs x e fr') : CodeOut P base μ s s' m b k cs x e fr' := by
  obtain ⟨ν, a', w', h1, h2, h3, h4, h5⟩ := h'
  exact ⟨ν, a', w', h1, h2, h3, h4, h5.head h⟩

theorem CodeOut.trans {μ ν : Mu} {s s1 s2 : St} {m m' : Machine} {b : Frame} {k : List Item} {cs : List Frame} {x : Value} {e : Ex} {fr' : Fr} (hx : Ext' μ ν s.ctr s1.ctr) (hc1 : s.ctr ≤ s1.ctr) (hc2 : s1.ctr ≤ s2.ctr) (hr : RcLe s.rc s1.rc) (h : Steps P m m')
    (h' : CodeOut P base ν s1 s2 m' b k cs x e fr') : CodeOut P base μ s s2 m b k cs x e fr' := by
  obtain ⟨ν', a', w', h1, h2, h3, h4, h5⟩ := h'
  exact ⟨ν', a', w', h1, hx.trans h2 hc1 hc2, hr.trans h3, h4, h5.head h⟩

theorem defers_put (fr : Fr) (ds : List AD) {dst : Option Nat} {v : AV} {fr' : Fr} (h : ({ fr with defers := ds } : Fr).put dst v = some fr') : fr'.defers = ds := by
  unfold Fr.put at h
  simp only [Fr.setEnv_eq] at h
  cases dst with
  | none => cases h; rfl
  | some d =>
    simp only at h
    split at h <;> cases h
    rfl

theorem seq_sim (hC : TypesOk P C) {K : CallFn} (hK : KOk P C base K) {ops : Array Oper} {cs : List Frame} {x : Value} {k : List Item} {b : Frame} : ∀ (l : List Oper) (i : Nat), ops.toList.drop i = l → ∀ {fr fr' : Fr} {s s' : St} {e : Ex} {a : Act} {μ : Mu} {w : World},
    seqD C K ops l fr s = some ((e, fr'), s') → s.base ≤ s.ctr → Rep base μ s.heap.get w → GlOk C μ → FrR μ b fr a → Fresh μ s.heap.get s.ctr s'.ctr → RcOk μ b.kind cs x s.rc →
    CodeOut P base μ s s' (lone (b.atR a (.inRegion ops (List.range' i l.length) :: k)) (setRc cs x s.rc) w) b k cs x e fr'
  | [], i, hl, fr, fr', s, s', e, a, μ, w, h, hb, hR, hg, hf, hF, hrc => by
    unfold seqD at h
    obtain ⟨h1, rfl⟩ := DM.pure_some h
    cases h1
    exact ⟨μ, a, w, hR, Ext'.refl _ _ _, RcLe.refl _, hf, .one stepR_region_end⟩
  | o :: rest, i, hl, fr, fr', s, s', e, a, μ, w, h, hb, hR, hg, hf, hF, hrc => by
    have ho : ops[i]? = some o := by
      have : (ops.toList.drop i)[0]? = some o := by rw [hl]; rfl
      rw [List.getElem?_drop] at this
      simpa using this
    have hl' : ops.toList.drop (i + 1) = rest := by
      rw [← List.tail_drop, hl]; rfl
    have hw := wanted_eq hf ops o
    unfold seqD at h
    simp only [List.length_cons, List.range'_succ]
    cases hwd : wantedD fr ops o with
    | false =>
      rw [hwd] at h hw
      simp only [DM.lift_bind] at h
      obtain ⟨fr1, hput, h⟩ := h
      have hstep := stepR_op_skip (P := P) (b := b) (a := a) (k := k) (cs := setRc cs x s.rc) (w := w) (ops := ops) (i := i) (rest := List.range' (i + 1) rest.length) (by simp [ho, hw])
      rw [ho] at hstep
      simp only [Option.bind_some] at hstep
      exact CodeOut.head (.one hstep) (seq_sim hC hK rest (i + 1) hl' h hb hR hg (hf.put hput (undef_rel μ)) hF hrc)
    | true =>
      rw [hwd] at h hw
      simp only at h
      obtain ⟨r, s1, h1, h2⟩ := DM.bind_some h
      have hk1 := (Mono.opD hK.mono fr o).keeps h1 hb
      cases r with
      | val v =>
        simp only [DM.lift_bind] at h2
        obtain ⟨fr1, hput, h2⟩ := h2
        have hk2 := (Mono.seqD hK.mono ops rest fr1).keeps h2 hk1.bc
        obtain ⟨ν, w', p1, p2, p3, y, p4, p5⟩ := op_step hC hK h1 hb hR hg hf (hF.fst hk2.ctr) hrc (ops := ops) (i := i) (rest := List.range' (i + 1) rest.length) (k := k) ho hw
        exact CodeOut.trans p2 hk1.ctr hk2.ctr p3 p5 (seq_sim hC hK rest (i + 1) hl' h2 hk1.bc p1 (hg.mono p2.le) ((hf.mono p2.le).put hput p4) (hF.snd p2 hk1) (RcOk.step p2.le p3 hrc))
      | pan v =>
        obtain ⟨h3, rfl⟩ := DM.pure_some h2
        cases h3
        obtain ⟨ν, w', p1, p2, p3, y, p4, p5⟩ := op_step hC hK h1 hb hR hg hf hF hrc (ops := ops) (i := i) (rest := List.range' (i + 1) rest.length) (k := k) ho hw
        exact ⟨ν, a, w', p1, p2, p3, hf.mono p2.le, _, y, p4, p5⟩
      | defer d =>
        simp only [DM.lift_bind] at h2
        obtain ⟨fr1, hput, h2⟩ := h2
        have hk2 := (Mono.seqD hK.mono ops rest fr1).keeps h2 hk1.bc
        obtain ⟨ν, w', p1, p2, p3, y, p4, p5⟩ := op_step hC hK h1 hb hR hg hf (hF.fst hk2.ctr) hrc (ops := ops) (i := i) (rest := List.range' (i + 1) rest.length) (k := k) ho hw
        have hf1 := hf.mono p2.le
        have hf2 : FrR ν b { fr with defers := d :: fr.defers } { a with defers := y :: a.defers } := ⟨hf1.fn, hf1.env, ⟨_, _, rfl, p4, hf1.defs⟩, hf1.round, hf1.gl⟩
        exact CodeOut.trans p2 hk1.ctr hk2.ctr p3 p5 (seq_sim hC hK rest (i + 1) hl' h2 hk1.bc p1 (hg.mono p2.le) (hf2.put hput (undef_rel ν)) (hF.snd p2 hk1) (RcOk.step p2.le p3 hrc))

end Pd
