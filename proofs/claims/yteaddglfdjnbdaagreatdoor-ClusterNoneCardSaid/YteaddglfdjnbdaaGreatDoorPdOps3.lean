/-
  The evaluator's operations and the model's: slices, append, copy, clear.
-/
import Derived.Test.YteaddglfdjnbdaaGreatDoorPdOps2
import Derived.Laws.AppendOwn
set_option linter.unusedVariables false
set_option linter.unusedSimpArgs false
namespace Pd
open Go
variable {P : Program} {C : Ctx} {base : World}

/-! ### x[lo:hi:mx] -/

theorem run_sliceBound {n y : Nat} {v : Value} {code : BoundsCode} {k : IntKind} (hv : v = .int k n) (h : n ≤ y) (w : World) : (Instr.sliceBound v y code).run P w = .ok n w := by
  subst hv
  simp only [Instr.sliceBound, asIntOf, Sem.run_bind, Sem.run_pure, Result.andThen_ok]
  rw [if_pos (by omega)]
  simp

/-- A bound that may be left out. -/
def OptR (μ : Mu) : Option AV → Option Value → Prop
  | none, none => True
  | some a, some v => VR μ a v
  | _, _ => False

theorem optBound_some {μ : Mu} {x : Option AV} {v : Option Value} {d n : Nat} (h : optBound x d = some n) (hv : OptR μ x v) : (x = none ∧ v = none ∧ n = d) ∨ (∃ k, v = some (.int k n) ∧ x.isSome = true) := by
  cases x with
  | none =>
    cases v with
    | none => simp only [optBound, Option.some.injEq] at h; exact .inl ⟨rfl, rfl, h.symm⟩
    | some v => exact hv.elim
  | some a =>
    cases v with
    | none => exact hv.elim
    | some v =>
      obtain ⟨k, _, rfl⟩ := natOf_some h hv
      exact .inr ⟨k, rfl, rfl⟩

theorem run_sliceBounds {μ : Mu} {isSlice : Bool} {len cap l h m dm : Nat} {lo hi mx : Option AV} {lov hiv mxv : Option Value} (hlo : OptR μ lo lov) (hhi : OptR μ hi hiv) (hmx : OptR μ mx mxv)
    (em : optBound mx dm = some m) (eh : optBound hi len = some h) (el : optBound lo 0 = some l) (hm : mx = none → m = cap) (hmc : m ≤ cap) (hhm : h ≤ m) (hlh : l ≤ h) (h3 : (mx.isNone || hi.isSome) = true) (w : World) :
    (Instr.sliceBounds isSlice len cap lov hiv mxv).run P w = .ok (l, h, m) w := by
  rcases optBound_some em hmx with ⟨rfl, rfl, e1⟩ | ⟨k1, rfl, e1⟩
  · have := hm rfl; subst this
    rcases optBound_some eh hhi with ⟨rfl, rfl, e2⟩ | ⟨k2, rfl, e2⟩
    · subst e2
      rcases optBound_some el hlo with ⟨rfl, rfl, e3⟩ | ⟨k3, rfl, e3⟩
      · subst e3; simp [Instr.sliceBounds]
      · simp [Instr.sliceBounds, run_sliceBound rfl hlh]
    · rcases optBound_some el hlo with ⟨rfl, rfl, e3⟩ | ⟨k3, rfl, e3⟩
      · subst e3; simp [Instr.sliceBounds, run_sliceBound rfl hhm]
      · simp [Instr.sliceBounds, run_sliceBound rfl hhm, run_sliceBound rfl hlh]
  · rcases optBound_some eh hhi with ⟨rfl, rfl, e2⟩ | ⟨k2, rfl, e2⟩
    · cases mx <;> simp at e1 h3
    · rcases optBound_some el hlo with ⟨rfl, rfl, e3⟩ | ⟨k3, rfl, e3⟩
      · subst e3; simp [Instr.sliceBounds, run_sliceBound rfl hmc, run_sliceBound rfl hhm]
      · simp [Instr.sliceBounds, run_sliceBound rfl hmc, run_sliceBound rfl hhm, run_sliceBound rfl hlh]

theorem sliceAt_noArr {t : Nat} {d : TypeDesc} (hu : P.underlying t = some d) (hd : ∀ n e, d ≠ .array n e) (x : Value) (lo hi mx : Option Value) (w : World) : (Instr.sliceAt t x lo hi mx).run P w = (Instr.slice t x lo hi mx).run P w := by
  unfold Instr.sliceAt
  simp only [Sem.run_bind, run_underlying hu, Result.andThen_ok]

theorem own_csize {μ : Mu} {w : World} {i : Info} {cs : List AV} {e : TypeId} {fz : Nat × Nat} {m : Mode} (h : ObjR μ w i (.cells cs e fz m)) (hm : ownMode m = true) : cs.length ≤ i.csize := by
  obtain ⟨X, fr, _, _, hmd⟩ := h
  cases m with
  | fixed => obtain ⟨a, b, c, _⟩ := hmd; omega
  | grow c => exact hmd.2.1
  | _ => cases hm

/-- A slice's capacity behind a cut. -/
theorem capOf_cut {i : Info} {off l sz : Nat} (hs : 0 < sz) : (i.csize - off) / sz - l = (i.csize - (off + l * sz)) / sz := by
  rw [← Nat.sub_sub, Nat.mul_comm l sz, Nat.sub_mul_div]

theorem slice_sim (hC : TyOk P C) {t : Nat} {x a : AV} {xv : Value} {lo hi mx : Option AV} {lov hiv mxv : Option Value} {μ : Mu} {s s' : St} {w : World} (hR : Rep base μ s.heap.get w) (hx : VR μ x xv) (hlo : OptR μ lo lov) (hhi : OptR μ hi hiv) (hmx : OptR μ mx mxv)
    (h : sliceD C t x lo hi mx s = some (a, s')) : s' = s ∧ ∃ v, (Instr.sliceAt t xv lov hiv mxv).run P w = .ok v w ∧ VR μ a v := by
  unfold sliceD at h
  cases x with
  | str b =>
    simp only [DM.lift_bind, DM.guard_bind, DM.pure_iff] at h
    obtain ⟨hg, hh, eh, h1, ll, el, h2, rfl, rfl⟩ := h
    simp only [Bool.and_eq_true, Option.isNone_iff_eq_none] at hg
    obtain ⟨hst, rfl⟩ := hg
    have hu := und_ok hC (isStr_some hst)
    simp only [VR] at hx; subst hx
    cases mxv with
    | some v => exact hmx.elim
    | none =>
      refine ⟨rfl, _, ?_, (rfl : VR μ (.str ((b.take hh).drop ll)) _)⟩
      rw [sliceAt_noArr hu (by simp)]
      have hb := run_sliceBounds (P := P) (isSlice := false) (cap := b.length) (dm := b.length) hlo hhi (show OptR μ none none from trivial) rfl eh el (fun _ => rfl) (Nat.le_refl _) (of_ble h1) (of_ble h2) rfl w
      have hsz : ByteArray.size ⟨b.toArray⟩ = b.length := by simp [ByteArray.size]
      simp only [Instr.slice, Sem.run_bind, run_underlying hu, Result.andThen_ok, Option.isSome_none, Bool.false_eq_true, if_false, Sem.run_pure, hsz, hb]
      congr 2
      apply ByteArray.ext
      simp [ByteArray.data_extract]
      rw [List.drop_take]
  | nils =>
    simp only [DM.lift_bind, DM.guard_bind, DM.pure_iff] at h
    obtain ⟨elem, he, sz, hs, m, em, hh, eh, l, el, hg, rfl, rfl⟩ := h
    simp only [Bool.and_eq_true] at hg
    have hm := Nat.beq_true hg.1.1.1
    have hh' := Nat.beq_true hg.1.1.2
    have hl := Nat.beq_true hg.1.2
    subst hm hh' hl
    have hu := und_ok hC (elem?_some he)
    simp only [VR] at hx; subst hx
    refine ⟨rfl, .slice none 0 0, ?_, by simp only [VR]⟩
    rw [sliceAt_noArr hu (by simp)]
    have hb := run_sliceBounds (P := P) (isSlice := true) (len := 0) (cap := 0) hlo hhi hmx em eh el (fun _ => rfl) (Nat.le_refl _) (Nat.le_refl _) (Nat.le_refl _) hg.2 w
    simp only [Instr.slice, capOf, Sem.run_bind, run_underlying hu, Result.andThen_ok, hb, Sem.run_pure, sizeOf_ok hC hs]
    simp
  | slice id off len c =>
    simp only [VR] at hx
    obtain ⟨i, ad, hi, rfl, hle, had⟩ := hx
    cases c with
    | ex c =>
      simp only [DM.lift_bind, DM.guard_bind, DM.pure_iff] at h
      obtain ⟨elem, he, sz, hs, m, em, hh, eh, l, el, hg, rfl, rfl⟩ := h
      simp only [Bool.and_eq_true] at hg
      obtain ⟨⟨⟨h1, h2⟩, h3⟩, h4⟩ := hg
      have h1 := of_ble h1
      have h2 := of_ble h2
      have h3 := of_ble h3
      have hu := und_ok hC (elem?_some he)
      simp only [capOf] at hle had
      refine ⟨rfl, .slice (some (if m = l then ad else ad.add (l * sz))) (hh - l) (m - l), ?_, ?_⟩
      · rw [sliceAt_noArr hu (by simp)]
        have hb := run_sliceBounds (P := P) (isSlice := true) (cap := c) hlo hhi hmx em eh el (fun e => by subst e; simpa [optBound] using em.symm) h1 h2 h3 h4 w
        simp only [Instr.slice, capOf, Sem.run_bind, run_underlying hu, Result.andThen_ok, hb, Sem.run_pure, sizeOf_ok hC hs]
        split <;> simp
      · simp only [VR, capOf]
        refine ⟨i, _, hi, rfl, by omega, fun hne => ?_⟩
        rw [if_neg (by omega), had (by omega), Addr.add_eq, Nat.add_assoc]
    | op sz' =>
      simp only [DM.lift_bind, DM.guard_bind] at h
      obtain ⟨elem, he, sz, hs, m, em, hh, eh, l, el, hg, h⟩ := h
      simp only [Bool.and_eq_true] at hg
      obtain ⟨⟨h3, h5⟩, h6⟩ := hg
      have h3 := of_ble h3
      have h5 := Nat.beq_true h5
      have h6 := of_blt h6
      subst h5
      have hu := und_ok hC (elem?_some he)
      simp only [capOf] at hle had
      cases mx with
      | some mxa =>
        simp only [DM.guard_bind, DM.pure_iff, Bool.and_eq_true] at h
        obtain ⟨⟨⟨h1, h2⟩, h4⟩, rfl, rfl⟩ := h
        have h1 := of_ble h1
        have h2 := of_ble h2
        refine ⟨rfl, .slice (some (if m = l then ad else ad.add (l * sz'))) (hh - l) (m - l), ?_, ?_⟩
        · rw [sliceAt_noArr hu (by simp)]
          have hb := run_sliceBounds (P := P) (isSlice := true) (cap := (i.csize - off) / sz') hlo hhi hmx em eh el (fun e => by cases e) (by omega) h2 h3 (by simp [h4]) w
          simp only [Instr.slice, capOf, Sem.run_bind, run_underlying hu, Result.andThen_ok, hb, Sem.run_pure, sizeOf_ok hC hs]
          split <;> simp
        · simp only [VR, capOf]
          refine ⟨i, _, hi, rfl, by omega, fun hne => ?_⟩
          rw [if_neg (by omega), had (by omega), Addr.add_eq, Nat.add_assoc]
      | none =>
        obtain ⟨_, s1, hr, h⟩ := DM.bind_some h
        simp only [DM.pure_iff] at h
        obtain ⟨rfl, rfl⟩ := h
        have hreach : s' = s ∧ hh ≤ (i.csize - off) / sz' := by
          unfold reachD at hr
          cases hb : Nat.ble hh len with
          | true =>
            rw [hb] at hr
            obtain ⟨_, rfl⟩ := DM.pure_some hr
            exact ⟨rfl, Nat.le_trans (of_ble hb) hle⟩
          | false =>
            rw [hb] at hr
            obtain ⟨⟨n, e, fz, md⟩, s2, hr1, hr2⟩ := DM.bind_some hr
            obtain ⟨rfl, cs, i', hg, hl, hlv, hi', hO⟩ := rowD_sound hR hr1
            obtain ⟨hg2, rfl⟩ := DM.guard_some hr2
            rw [hi] at hi'; cases hi'
            simp only [Bool.and_eq_true] at hg2
            have hcs := own_csize hO hg2.2
            have hg2 := of_ble hg2.1
            refine ⟨rfl, ?_⟩
            rw [Nat.le_div_iff_mul_le h6]
            omega
        obtain ⟨rfl, hcap⟩ := hreach
        have em' : m = len := by simpa [optBound] using em.symm
        refine ⟨rfl, .slice (some (if (i.csize - off) / sz' = l then ad else ad.add (l * sz'))) (hh - l) ((i.csize - off) / sz' - l), ?_, ?_⟩
        · rw [sliceAt_noArr hu (by simp)]
          cases mxv with
          | some v => exact hmx.elim
          | none =>
            have hb := run_sliceBounds (P := P) (isSlice := true) (cap := (i.csize - off) / sz') (dm := (i.csize - off) / sz') hlo hhi (show OptR μ none none from trivial) rfl eh el (fun e => rfl) (Nat.le_refl _) hcap h3 rfl w
            simp only [Instr.slice, capOf, Sem.run_bind, run_underlying hu, Result.andThen_ok, hb, Sem.run_pure, sizeOf_ok hC hs]
            split <;> simp
        · simp only [VR, capOf]
          refine ⟨i, _, hi, by rw [capOf_cut h6], by rw [← capOf_cut h6]; omega, fun hne => ?_⟩
          rw [← capOf_cut h6] at hne
          rw [if_neg (by omega), had (by omega), Addr.add_eq, Nat.add_assoc]
  | ptr id off =>
    simp only [DM.lift_bind, DM.guard_bind, DM.pure_iff] at h
    obtain ⟨⟨n, elem⟩, he, sz, hs, m, em, hh, eh, l, el, hg, rfl, rfl⟩ := h
    simp only [Bool.and_eq_true] at hg
    obtain ⟨⟨⟨h1, h2⟩, h3⟩, h4⟩ := hg
    have h1 := of_ble h1
    have h2 := of_ble h2
    have h3 := of_ble h3
    have hu := und_ok hC (arr?_some he)
    simp only [VR] at hx
    obtain ⟨i, hi, rfl⟩ := hx
    refine ⟨rfl, .slice (some (if m = l then ⟨i.blk, i.off + off, none⟩ else (⟨i.blk, i.off + off, none⟩ : Addr).add (l * sz))) (hh - l) (m - l), ?_, ?_⟩
    · have hb := run_sliceBounds (P := P) (isSlice := false) (cap := n) hlo hhi hmx em eh el (fun e => by subst e; simpa [optBound] using em.symm) h1 h2 h3 h4 w
      simp only [Instr.sliceAt, Instr.sureAddr, Sem.run_bind, run_underlying hu, Result.andThen_ok, hb, Sem.run_pure, sizeOf_ok hC hs]
    · simp only [VR, capOf]
      refine ⟨i, _, hi, rfl, by omega, fun hne => ?_⟩
      rw [if_neg (by omega), Addr.add_eq, Nat.add_assoc]
  | _ => exact (DM.fail_some (s := s) (r := (a, s')) h).elim

end Pd
