/-
  The evaluator sees only what is not hidden: regions that draw their order; code; calls.
-/
import Derived.Test.YteaddglfdjnbdaaGreatDoorPdMono2
namespace Pd
open Go
variable {C : Ctx}

/-- A state in which an operation of a region that draws its order is run. -/
def St.sub (s : St) (mask : List Msk) : St := { s with base := s.ctr, log := [], inv := mask ++ s.inv }
/-- The state behind it. -/
def St.back (s s' : St) : St := { s' with base := s.base, inv := s.inv, rc := s.rc, log := (s'.log.filter fun l => Nat.blt l.id s.base) ++ s.log }

theorem St.subF_eq (s : St) (mask : List Msk) : s.subF mask = s.sub mask := rfl
theorem St.backF_eq (s s' : St) : s.backF s' = s.back s' := rfl

theorem Le.sub {s k : St} (h : Le s k) (mask : List Msk) : Le (s.sub mask) (k.sub mask) :=
  ⟨h.ctr, h.ctr, h.rc, Nat.le_refl _, h.inv.append mask, fun l hv v hl => h.at_ l ((InvLe.vis ⟨fun i x => (by
      simp only [St.sub, hid_append, Bool.or_eq_false_iff] at x; exact x.2), fun i x y z => (by
      simp only [St.sub, hidSome_append, Bool.or_eq_false_iff] at z; exact z.2)⟩ hv)) v hl, fun i h1 h2 => absurd h2 (Nat.not_lt.2 h1)⟩

theorem vis_append {a b : List Msk} {l : Loc} (h : vis (a ++ b) l = true) : vis b l = true ∧ vis a l = true := by
  obtain ⟨id, c⟩ := l
  cases c with
  | none => simp only [vis, hid_append, Bool.not_eq_true', Bool.or_eq_false_iff] at h ⊢; exact ⟨h.2, h.1⟩
  | some c => simp only [vis, hidSome_append, Bool.not_eq_true', Bool.or_eq_false_iff] at h ⊢; exact ⟨h.2, h.1⟩

theorem tch_filter {l : List Lg} {n : Nat} {p : Loc} (h : p.id < n) : tch (l.filter fun e => Nat.blt e.id n) p = tch l p := by
  induction l with
  | nil => rfl
  | cons e l ih =>
    simp only [List.filter_cons]
    split
    · rw [tch_cons, tch_cons, ih]
    · rename_i hn
      rw [tch_cons, ih]
      have : e.at p = false := by
        cases ha : e.at p with
        | false => rfl
        | true =>
          simp only [Lg.at, Bool.and_eq_true, beq_iff_eq] at ha
          exact absurd (blt_of (ha.1 ▸ h)) hn
      simp [this]

theorem tch_above {l : List Lg} {n : Nat} (h : ∀ e ∈ l, e.id < n) {p : Loc} (hp : n ≤ p.id) : tch l p = false := by
  cases ht : tch l p with
  | false => rfl
  | true =>
    simp only [tch, List.any_eq_true] at ht
    obtain ⟨e, he, ha⟩ := ht
    simp only [Lg.at, Bool.and_eq_true, beq_iff_eq] at ha
    have := h e he
    omega

theorem tch_filter_le {l : List Lg} {n : Nat} {p : Loc} (h : tch (l.filter fun e => Nat.blt e.id n) p = true) : tch l p = true := by
  simp only [tch, List.any_eq_true, List.mem_filter] at h ⊢
  obtain ⟨e, he, ha⟩ := h
  exact ⟨e, he.1, ha⟩

/-- From an operation's own run, under a mask, back to the region's. -/
theorem Post.back {s k : St} (h : Le s k) {mask : List Msk} {s' k' : St} (hp : Post (s.sub mask) s' (k.sub mask) k') : Post s (s.back s') k (k.back k') ∧ k'.log = s'.log := by
  obtain ⟨l, a, b, c, d, e⟩ := hp.log
  have hl : s'.log = l := by rw [a]; simp [St.sub]
  have hl' : k'.log = l := by rw [b]; simp [St.sub]
  have c' : ∀ x ∈ l, x.id < s.ctr := c
  have e' : ∀ p : Loc, (p.id < s.ctr ∨ s'.ctr ≤ p.id) → (tch l p = true → lv s'.heap.get p = lv k'.heap.get p) ∧ (tch l p = false → lv s'.heap.get p = lv s.heap.get p ∧ lv k'.heap.get p = lv k.heap.get p) := e
  have hc : s.ctr ≤ s'.ctr := hp.ctr
  have hbase : s'.base = s.ctr := hp.base
  have hown : ∀ i, s.ctr ≤ i → i < s'.ctr → k'.heap.get i = s'.heap.get i := fun i h1 h2 => hp.le.own i (by rw [hbase]; exact h1) h2
  refine ⟨⟨⟨hp.le.ctr, h.base, h.rc, Nat.le_trans h.bc hc, h.inv, ?_, ?_⟩, rfl, rfl, rfl, hc, l.filter fun e => Nat.blt e.id s.base, ?_, ?_, ?_, ?_, ?_⟩, hl'.trans hl.symm⟩
  · intro p hv v hlv
    by_cases hr : s.ctr ≤ p.id ∧ p.id < s'.ctr
    · have := hown p.id hr.1 hr.2
      simp only [St.back, lv] at hlv ⊢
      rw [this]; exact hlv
    · obtain ⟨f, g⟩ := e' p (by omega)
      cases ht : tch l p with
      | true => exact (f ht) ▸ hlv
      | false =>
        obtain ⟨u, w⟩ := g ht
        have : lv s.heap.get p = some v := u ▸ hlv
        exact w ▸ h.at_ p hv v this
  · intro i h1 h2
    by_cases hr : s.ctr ≤ i
    · exact hown i hr h2
    · apply lvO_ext
      intro cc
      obtain ⟨f, g⟩ := e' ⟨i, cc⟩ (.inl (by simp only; omega))
      cases ht : tch l ⟨i, cc⟩ with
      | true => exact (f ht).symm
      | false =>
        obtain ⟨u, w⟩ := g ht
        have := h.own i h1 (by omega)
        simp only [lv] at u w
        simp only [St.back]
        rw [w, u, this]
  · simp [St.back, hl]
  · simp [St.back, hl', h.base]
  · intro x hx
    simp only [List.mem_filter] at hx
    exact of_blt hx.2
  · intro p hpt
    exact (vis_append (d p (tch_filter_le hpt))).1
  · intro p hpp
    obtain ⟨f, g⟩ := e' p (hpp.imp (fun x => Nat.lt_of_lt_of_le x h.bc) id)
    have ht : tch (l.filter fun e => Nat.blt e.id s.base) p = tch l p := by
      rcases hpp with x | x
      · exact tch_filter x
      · have h1 : tch l p = false := tch_above c' (Nat.le_trans hc x)
        rw [h1]
        cases h2 : tch (l.filter fun e => Nat.blt e.id s.base) p with
        | false => rfl
        | true => rw [tch_filter_le h2] at h1; cases h1
    rw [ht]
    exact ⟨f, g⟩

theorem classMask_mono {s k : St} (h : Le s k) {fr : Fr} {o : Oper} {m : List Msk} (hm : classMask C fr s o = some m) : classMask C fr k o = some m := by
  unfold classMask at hm ⊢
  rw [h.ctr]
  split at hm <;> try exact hm
  · split at hm
    · rename_i id off n he hn
      cases hmt : s.mt id with
      | none => rw [hmt] at hm; cases hm
      | some x => rw [h.mt hmt]; rw [hmt] at hm; exact hm
    · cases hm
  · split at hm
    · rename_i id off n he hn
      cases hmt : s.mt id with
      | none => rw [hmt] at hm; cases hm
      | some x => rw [h.mt hmt]; rw [hmt] at hm; exact hm
    · cases hm

theorem drawOne_some {K : CallFn} {fr : Fr} {o : Oper} {bits : Nat} {done : List Kept} {s : St} {r : AV × St × Kept} (h : drawOne C K fr o bits done s = some r) :
    ∃ cm s', classMask C fr s o = some cm ∧ opD C K fr o (s.sub (unordered bits done 0 ++ cm)) = some (.val r.1, s') ∧ rcSame s.rc s'.rc = true ∧ r.2.1 = s.back s' ∧ r.2.2 = ⟨s.ctr, s'.ctr, s'.log, unordered bits done 0 ++ cm⟩ := by
  unfold drawOne at h
  simp only [St.subF_eq, St.backF_eq] at h
  split at h
  · cases h
  · rename_i cm hcm
    split at h
    · rename_i v s' ho
      split at h
      · rename_i hrc
        cases h
        exact ⟨cm, s', hcm, ho, hrc, rfl, rfl⟩
      · cases h
    · cases h

theorem drawOne_mono {K : CallFn} (hK : ∀ c a, Mono (K c a)) {fr : Fr} {o : Oper} {bits : Nat} {done : List Kept} {s k : St} (h : Le s k) {v : AV} {s' : St} {q : Kept}
    (hs : drawOne C K fr o bits done s = some (v, s', q)) : ∃ k', drawOne C K fr o bits done k = some (v, k', q) ∧ Post s s' k k' := by
  obtain ⟨cm, s1, h1, h2, hrc, h3, h4⟩ := drawOne_some hs
  simp only at h2 h3 h4
  obtain ⟨k1, e1, p1⟩ := Mono.opD hK fr o _ _ (h.sub (unordered bits done 0 ++ cm)) _ _ h2
  obtain ⟨pb, hlog⟩ := Post.back h p1
  refine ⟨k.back k1, ?_, h3 ▸ pb⟩
  unfold drawOne
  rw [classMask_mono h h1]
  simp only [St.subF_eq, St.backF_eq]
  rw [e1]
  have hrc' : rcSame k.rc k1.rc = true := by rw [h.rc, p1.le.rc]; exact hrc
  simp only [hrc', St.back, h4, hlog, h.ctr, p1.le.ctr]

theorem Mono.drawD {K : CallFn} (hK : ∀ c a, Mono (K c a)) (ops : Array Oper) (before : List Nat) (all : List Oper) : ∀ (l : List Oper) (i : Nat) (done : List Kept) (fr : Fr),
    Mono (Pd.drawD C K ops before all l i done fr)
  | [], i, done, fr => Mono.pure _
  | o :: rest, i, done, fr => by
    intro s k h a s' hs
    unfold Pd.drawD at hs ⊢
    dsimp only at hs ⊢
    cases hw : wantedD fr ops o with
    | false =>
      rw [hw] at hs
      dsimp only at hs ⊢
      cases hp : fr.put o.dst undefA with
      | none => rw [hp] at hs; cases hs
      | some fr' =>
        rw [hp] at hs
        dsimp only at hs ⊢
        rw [h.ctr]
        split at hs
        · exact Mono.drawD hK ops before all rest (i + 1) _ fr' s k h a s' hs
        · cases hs
    | true =>
      rw [hw] at hs
      dsimp only at hs ⊢
      cases hd : drawOne C K fr o ((before[i]?).getD 0) done s with
      | none => rw [hd] at hs; cases hs
      | some x =>
        obtain ⟨v, s1, q⟩ := x
        rw [hd] at hs
        obtain ⟨k1, e1, p1⟩ := drawOne_mono hK h hd
        rw [e1]
        dsimp only at hs ⊢
        cases hp : fr.put o.dst v with
        | none => rw [hp] at hs; cases hs
        | some fr' =>
          rw [hp] at hs
          dsimp only at hs ⊢
          split at hs
          · obtain ⟨k2, e2, p2⟩ := Mono.drawD hK ops before all rest (i + 1) _ fr' s1 k1 p1.le a s' hs
            exact ⟨k2, e2, p1.trans p2⟩
          · cases hs

theorem Mono.codeD {K : CallFn} (hK : ∀ c a, Mono (K c a)) (fuel : Nat) : ∀ (c : Code) (fr : Fr), Mono (Pd.codeD C K fuel c fr)
  | .skip, fr => by unfold Pd.codeD; exact Mono.pure _
  | .region _ ops draw, fr => by
    unfold Pd.codeD
    repeat' first | exact Mono.pure _ | exact Mono.guard _ | exact Mono.seqD hK _ _ _ | exact Mono.drawD hK _ _ _ _ _ _ _ | refine Mono.bind ?_ (fun _ => ?_) | split
  | .seq a b, fr => by
    have ha := Mono.codeD hK fuel a
    have hb := Mono.codeD hK fuel b
    unfold Pd.codeD
    repeat' first | exact Mono.pure _ | exact ha _ | exact hb _ | refine Mono.bind ?_ (fun _ => ?_) | split
  | .cond c a b, fr => by
    have ha := Mono.codeD hK fuel a
    have hb := Mono.codeD hK fuel b
    unfold Pd.codeD
    repeat' first | exact Mono.pure _ | exact Mono.fail | exact Mono.lift _ | exact ha _ | exact hb _ | refine Mono.bind ?_ (fun _ => ?_) | split
  | .block id b, fr => by
    have hb := Mono.codeD hK fuel b
    unfold Pd.codeD
    repeat' first | exact Mono.pure _ | exact hb _ | refine Mono.bind ?_ (fun _ => ?_) | split
  | .loop b, fr => by
    have hb := Mono.codeD hK fuel b
    unfold Pd.codeD
    exact Mono.iter hb _ _
  | .rangeFunc g ps a b, fr => by unfold Pd.codeD; exact Mono.rangeFuncD hK _ _ _ _ _
  | .exit id, fr => by unfold Pd.codeD; exact Mono.pure _
  | .scope b, fr => by unfold Pd.codeD; exact Mono.fail
  | .label l, fr => by unfold Pd.codeD; exact Mono.pure _
  | .goto l, fr => by unfold Pd.codeD; exact Mono.fail
  | .ret, fr => by unfold Pd.codeD; exact Mono.pure _
  | .refuse w, fr => by unfold Pd.codeD; exact Mono.fail

theorem Mono.roundD {K : CallFn} (hK : ∀ c a, Mono (K c a)) (fuel l : Nat) (args : List AV) : Mono (Pd.roundD C K fuel l args) := by
  unfold Pd.roundD
  repeat' first | exact Mono.pure _ | exact Mono.fail | exact Mono.lift _ | exact Mono.guard _ | exact Mono.objD _ | exact Mono.putObj _ _ | exact Mono.codeD hK _ _ _ | refine Mono.bind ?_ (fun _ => ?_) | split

/-- The given summaries see only what is not hidden. -/
def Ctx.PrimMono (C : Ctx) : Prop := ∀ f p, C.prim f = some p → ∀ args, Mono (p args)

theorem Mono.callBody {K KD : CallFn} (hP : C.PrimMono) (hK : ∀ c a, Mono (K c a)) (hKD : ∀ c a, Mono (KD c a)) (fuel f : Nat) (args : List AV) : Mono (Pd.callBody C K KD fuel f args) := by
  unfold Pd.callBody
  split
  · rename_i p hp; exact hP f p hp args
  · repeat' first | exact Mono.pure _ | exact Mono.fail | exact Mono.extD _ _ | exact Mono.codeD hK _ _ _ | exact Mono.leaveD hKD _ _ _ | refine Mono.bind ?_ (fun _ => ?_) | split | dsimp only

theorem Mono.callD (hP : C.PrimMono) : ∀ (n : Nat) (c : Callee') (args : List AV), Mono (Pd.callD C n c args)
  | 0, c, args => by unfold Pd.callD; exact Mono.fail
  | n + 1, .fn f, args => by
    unfold Pd.callD
    exact Mono.callBody hP (fun c a => Mono.plainCall (Mono.callD hP n c a)) (Mono.callD hP n) n f args
  | n + 1, .yield l, args => by
    unfold Pd.callD
    exact Mono.roundD (fun c a => Mono.plainCall (Mono.callD hP n c a)) n l args
end Pd
