/-
  The evaluator's operations and the model's: append, copy, clear, len, cap.
-/
import Derived.Test.YteaddglfdjnbdaaGreatDoorPdOps4
set_option linter.unusedVariables false
set_option linter.unusedSimpArgs false
namespace Pd
open Go
variable {P : Program} {C : Ctx} {base : World}

theorem Rep.same {μ : Mu} {g g' : Nat → Option AObj} {w : World} (h : Rep base μ g w) (e : g = g') : Rep base μ g' w := e ▸ h

theorem append_sim (hC : TyOk P C) {ts tx ty : Nat} {sa x a : AV} {sv xv : Value} {μ : Mu} {s s' : St} {w : World} (hR : Rep base μ s.heap.get w) (hs : VR μ sa sv) (hx : VR μ x xv) (h : appendD C ts tx sa x s = some (a, s')) (hF : Fresh μ s.heap.get s.ctr s'.ctr) :
    OpOut P base μ s s' (Builtin.append_ #[ts, tx] ty #[sv, xv]) w a := by
  unfold appendD at h
  simp only [DM.lift_bind] at h
  obtain ⟨elem, he, i, hi, h⟩ := h
  have hts := und_ok hC (elem?_some he)
  have hi := hC.ty _ _ hi
  obtain ⟨⟨m, news⟩, s1, h1, h2⟩ := DM.bind_some h
  obtain ⟨rfl, hnl, ns, hnew, hc⟩ := comes_sim hC hR hx h1
  have hnll := hnew.length
  simp only at h2
  unfold appendCells at h2
  cases sa with
  | nils =>
    simp only [VR] at hs; subst hs
    simp only at h2
    cases h0 : Nat.beq m 0 with
    | true =>
      rw [h0] at h2
      obtain ⟨rfl, rfl⟩ := DM.pure_some h2
      have h0 := Nat.beq_true h0
      subst h0
      have hrun := run_append_in (ty := ty) hts hi hc (bs := none) (sLen := 0) (sCap := 0) (Nat.le_refl _)
      simp only [Result.andThen_ok] at hrun
      exact ⟨μ, w, _, hrun, hR, Ext'.refl _ _ _, by simp only [VR], rfl⟩
    | false =>
      rw [h0] at h2
      have h0 := Nat.beq_false h0
      exact appendNew_sim hC hR hts hi hc (sCap := 0) (bs := none) (olds := []) (by omega) (fun w' _ => by simp [Builtin.firstCells]) (by simp only [VRs]) hnew (by simp) hnl h2 hF
  | slice id off len c =>
    have hs0 := hs
    simp only [VR] at hs
    obtain ⟨j, ad, hj, rfl, hle, had⟩ := hs
    cases c with
    | ex c =>
      simp only [capOf] at hle had
      simp only at h2
      cases hb : Nat.ble (len + m) c with
      | true =>
        rw [hb] at h2
        have hb := of_ble hb
        have hrun := run_append_in (ty := ty) hts hi hc (bs := some ad) (sLen := len) (sCap := c) hb
        simp only at h2
        cases h0 : Nat.beq m 0 with
        | true =>
          rw [h0] at h2
          obtain ⟨rfl, rfl⟩ := DM.pure_some h2
          have h0 := Nat.beq_true h0
          subst h0
          have : ns = [] := List.length_eq_zero_iff.1 (by omega)
          subst this
          simp only [storeCells, Sem.run_pure, Result.andThen_ok] at hrun
          exact ⟨μ, w, _, hrun, hR, Ext'.refl _ _ _, by simp only [VR, capOf]; exact ⟨j, ad, hj, rfl, hle, had⟩, rfl⟩
        | false =>
          rw [h0] at h2
          have h0 := Nat.beq_false h0
          obtain ⟨_, s2, h3, h4⟩ := DM.bind_some h2
          obtain ⟨rfl, rfl⟩ := DM.pure_some h4
          obtain ⟨i', w', hi', hw, hR', hct, hrc⟩ := wr_sim (P := P) hR hnew h3
          rw [hj] at hi'; cases hi'
          rw [had (by omega)] at hrun
          simp only [Addr.add_eq, Nat.add_assoc, hw, Result.andThen_ok] at hrun
          exact ⟨μ, w', _, by rw [had (by omega)]; exact hrun, hR', Ext'.refl _ _ _, by simp only [VR, capOf]; exact ⟨j, _, hj, rfl, hb, fun _ => rfl⟩, hrc⟩
      | false =>
        rw [hb] at h2
        have hb := not_ble hb
        obtain ⟨old, s2, h3, h4⟩ := DM.bind_some h2
        have hol := sliceCells_len h3
        obtain ⟨rfl, olds, hold, hfo⟩ := sliceCells_sim (P := P) hR hs0 h3
        exact appendNew_sim hC hR hts hi hc hb hfo hold hnew hol hnl h4 hF
    | op sz' =>
      simp only at h2
      cases h0 : Nat.beq m 0 with
      | true =>
        rw [h0] at h2
        obtain ⟨rfl, rfl⟩ := DM.pure_some h2
        have h0 := Nat.beq_true h0
        subst h0
        have : ns = [] := List.length_eq_zero_iff.1 (by omega)
        subst this
        have hrun := run_append_in (ty := ty) hts hi hc (bs := some ad) (sLen := len) (sCap := capOf j off (.op sz')) hle
        simp only [storeCells, Sem.run_pure, Result.andThen_ok] at hrun
        exact ⟨μ, w, _, hrun, hR, Ext'.refl _ _ _, hs0, rfl⟩
      | false =>
        rw [h0] at h2
        have h0 := Nat.beq_false h0
        simp only [DM.guard_bind] at h2
        obtain ⟨h3, h2⟩ := h2
        have h3 := Nat.beq_true h3
        subst h3
        obtain ⟨⟨n, e, fz, md⟩, s2, h4, h5⟩ := DM.bind_some h2
        obtain ⟨rfl, cs, j', hg, hcl, hlv, hj', hO⟩ := rowD_sound hR h4
        rw [hj] at hj'; cases hj'
        cases md with
        | grow c =>
          simp only at h5
          cases hb : Nat.ble (off + (len + m) * i.size) n with
          | true =>
            rw [hb] at h5
            have hb := of_ble hb
            simp only [DM.guard_bind] at h5
            obtain ⟨h6, h5⟩ := h5
            have h6 := of_blt h6
            obtain ⟨_, s3, h7, h8⟩ := DM.bind_some h5
            obtain ⟨rfl, rfl⟩ := DM.pure_some h8
            have hcs := own_csize hO rfl
            have hcap : len + m ≤ capOf j off (.op i.size) := by
              simp only [capOf]
              rw [Nat.le_div_iff_mul_le h6]
              omega
            obtain ⟨i', w', hi', hw, hR', hct, hrc⟩ := wr_sim (P := P) hR hnew h7
            rw [hj] at hi'; cases hi'
            have hrun := run_append_in (ty := ty) hts hi hc (bs := some ad) hcap
            have had' := had (by omega)
            subst had'
            simp only [Addr.add_eq, Nat.add_assoc, hw, Result.andThen_ok] at hrun
            exact ⟨μ, w', _, by simpa only [Nat.add_assoc] using hrun, hR', Ext'.refl _ _ _, by simp only [VR]; exact ⟨j, _, hj, rfl, hcap, fun _ => rfl⟩, hrc⟩
          | false =>
            rw [hb] at h5
            exact appendOpen_sim hC hR hts hi hc (by omega) hg hcl hs0 hnew hnl h5 hF
        | _ => exact (DM.fail_some h5).elim
  | _ => exact (DM.fail_some h2).elim

theorem copy_sim (hC : TyOk P C) {td ty : Nat} {d x a : AV} {dv xv : Value} {μ : Mu} {s s' : St} {w : World} {ts : Array TypeId} (hts : ts[0]? = some td) (hR : Rep base μ s.heap.get w) (hd : VR μ d dv) (hx : VR μ x xv) (h : copyD C td d x s = some (a, s')) :
    OpOut P base μ s s' (Builtin.copy_ ts ty #[dv, xv]) w a := by
  unfold copyD at h
  simp only [DM.lift_bind] at h
  obtain ⟨elem, he, sz, hs, n1, hn1, n2, hn2, h⟩ := h
  have hu := und_ok hC (elem?_some he)
  obtain ⟨cs, s1, h1, h2⟩ := DM.bind_some h
  obtain ⟨rfl, xs, hxs, hfc⟩ := sliceCells_sim (P := P) hR hx h1
  simp only [DM.guard_bind] at h2
  obtain ⟨hl, h2⟩ := h2
  have hl := Nat.beq_true hl
  have hlo := lenD_some (P := P) hn1 hx
  have hxl := hxs.length
  cases d with
  | nils =>
    simp only [VR] at hd; subst hd
    obtain ⟨rfl, rfl⟩ := DM.pure_some h2
    simp only [lenD, Option.some.injEq] at hn2; subst hn2
    refine ⟨μ, w, .int .i64 (Nat.min n1 0), ?_, hR, Ext'.refl _ _ _, by simp only [VR], rfl⟩
    have hf := hfc w rfl
    have hm : Nat.min n1 0 = 0 := Nat.min_eq_right (Nat.zero_le _)
    simp only [hm] at hf ⊢
    simp [Builtin.copy_, hts, run_underlying hu, sizeOf_ok hC hs, hlo, hf, goInt]
  | slice id off len c =>
    simp only [VR] at hd
    obtain ⟨j, ad, hj, rfl, hle, had⟩ := hd
    simp only [lenD, Option.some.injEq] at hn2; subst hn2
    simp only at h2
    have hf := hfc w rfl
    cases h0 : Nat.beq (Nat.min n1 len * sz) 0 with
    | true =>
      rw [h0] at h2
      obtain ⟨rfl, rfl⟩ := DM.pure_some h2
      have h0 := Nat.beq_true h0
      have : xs = [] := List.length_eq_zero_iff.1 (by omega)
      subst this
      refine ⟨μ, w, .int .i64 (Nat.min n1 len), ?_, hR, Ext'.refl _ _ _, by simp only [VR], rfl⟩
      simp [Builtin.copy_, hts, run_underlying hu, sizeOf_ok hC hs, hlo, hf, goInt, storeCells]
    | false =>
      rw [h0] at h2
      have h0 := Nat.beq_false h0
      obtain ⟨_, s2, h3, h4⟩ := DM.bind_some h2
      obtain ⟨rfl, rfl⟩ := DM.pure_some h4
      obtain ⟨i', w', hi', hw, hR', hct, hrc⟩ := wr_sim (P := P) hR hxs h3
      rw [hj] at hi'; cases hi'
      have hlen : len ≠ 0 := by
        rintro rfl
        simp at h0
      have had' := had (by omega)
      subst had'
      refine ⟨μ, w', .int .i64 (Nat.min n1 len), ?_, hR', Ext'.refl _ _ _, by simp only [VR], hrc⟩
      simp [Builtin.copy_, hts, run_underlying hu, sizeOf_ok hC hs, hlo, hf, goInt, hw]
  | _ => exact (DM.fail_some h2).elim

theorem clear_sim (hC : TyOk P C) {t ty : Nat} {x : AV} {xv : Value} {μ : Mu} {s s' : St} {w : World} {u : Unit} {ts : Array TypeId} (hts : ts[0]? = some t) (hR : Rep base μ s.heap.get w) (hx : VR μ x xv) (h : clearB C t x s = some (u, s')) :
    OpOut P base μ s s' (Builtin.clear_ ts ty #[xv]) w undefA := by
  unfold clearB at h
  simp only [DM.lift_bind] at h
  obtain ⟨elem, he, h⟩ := h
  have hu := und_ok hC (elem?_some he)
  cases x with
  | nils =>
    simp only [VR] at hx; subst hx
    obtain ⟨_, rfl⟩ := DM.pure_some h
    exact ⟨μ, w, .tuple #[], by simp [Builtin.clear_, hts, run_underlying hu], hR, Ext'.refl _ _ _, by simp [undefA, VR, VRs], rfl⟩
  | slice id off n c =>
    simp only [VR] at hx
    obtain ⟨j, ad, hj, rfl, hle, had⟩ := hx
    simp only at h
    cases h0 : Nat.beq n 0 with
    | true =>
      rw [h0] at h
      obtain ⟨_, rfl⟩ := DM.pure_some h
      have h0 := Nat.beq_true h0
      subst h0
      exact ⟨μ, w, .tuple #[], by simp [Builtin.clear_, hts, run_underlying hu], hR, Ext'.refl _ _ _, by simp [undefA, VR, VRs], rfl⟩
    | false =>
      rw [h0] at h
      have h0 := Nat.beq_false h0
      simp only [DM.lift_bind, DM.guard_bind] at h
      obtain ⟨zero, hz, sz, hs, hzl, h⟩ := h
      obtain ⟨z, hzr, hzv⟩ := zero_ok hC hz
      obtain ⟨i', w', hi', hw, hR', hct, hrc⟩ := wr_sim (P := P) hR (zeroCells_rel (hzv μ).cells n) h
      rw [hj] at hi'; cases hi'
      have had' := had (by omega)
      subst had'
      refine ⟨μ, w', .tuple #[], ?_, hR', Ext'.refl _ _ _, by simp [undefA, VR, VRs], hrc⟩
      obtain ⟨k, rfl⟩ := Nat.exists_eq_succ_of_ne_zero h0
      simp [Builtin.clear_, hts, run_underlying hu, hzr, hw]
  | _ => exact (DM.fail_some h).elim

theorem goInt_rel (μ : Mu) (n : Nat) : VR μ (.int .i64 n) (goInt n) := by simp only [VR, goInt]

theorem cap_sim (hC : TyOk P C) {t ty : Nat} {x a : AV} {xv : Value} {μ : Mu} {s s' : St} {w : World} {ts : Array TypeId} (hts : ts[0]? = some t) (hR : Rep base μ s.heap.get w) (hx : VR μ x xv) (h : capB C t x s = some (a, s')) :
    OpOut P base μ s s' (Builtin.cap_ ts ty #[xv]) w a := by
  have arr : (do
      let (n, _) ← DM.lift (arr? C t)
      DM.pure (AV.int .i64 n)) s = some (a, s') → OpOut P base μ s s' (Builtin.cap_ ts ty #[xv]) w a := by
    intro h
    simp only [DM.lift_bind, DM.pure_iff] at h
    obtain ⟨⟨n, e⟩, he, rfl, rfl⟩ := h
    have hu := und_ok hC (arr?_some he)
    exact ⟨μ, w, goInt n, by simp [Builtin.cap_, hts, run_underlying hu], hR, Ext'.refl _ _ _, goInt_rel _ _, rfl⟩
  unfold capB at h
  split at h
  · simp only [DM.lift_bind, DM.pure_iff] at h
    obtain ⟨e, he, rfl, rfl⟩ := h
    have hu := und_ok hC (elem?_some he)
    simp only [VR] at hx; subst hx
    exact ⟨μ, w, goInt 0, by simp [Builtin.cap_, hts, run_underlying hu], hR, Ext'.refl _ _ _, goInt_rel _ _, rfl⟩
  · simp only [DM.lift_bind, DM.pure_iff] at h
    obtain ⟨e, he, rfl, rfl⟩ := h
    have hu := und_ok hC (elem?_some he)
    simp only [VR, capOf] at hx
    obtain ⟨j, ad, hj, rfl, hle, had⟩ := hx
    exact ⟨μ, w, goInt _, by simp [Builtin.cap_, hts, run_underlying hu], hR, Ext'.refl _ _ _, goInt_rel _ _, rfl⟩
  · exact (DM.fail_some h).elim
  · exact arr h

theorem run_getObj {w : World} {r : Nat} {o : Obj} (h : w.heap[r]? = some o) (hn : ∀ c e f, o ≠ .cells c e f) : (getObj r).run P w = .ok o w := by
  simp only [getObj, Sem.run, h]

theorem run_setObj {w : World} {r : Nat} {o o' : Obj} (h : w.heap[r]? = some o) (hn : ∀ c e f, o ≠ .cells c e f) : (setObj r o').run P w = .ok () { w with heap := w.heap.setIfInBounds r o' } := by
  simp only [setObj, Sem.run, h]

theorem objD_sound {s s' : St} {id : Nat} {o : AObj} {μ : Mu} {w : World} (hR : Rep base μ s.heap.get w) (h : objD id s = some (o, s')) : s' = s ∧ s.heap.get id = some o ∧ isRow (some o) = false := by
  obtain ⟨rfl, hm⟩ := objD_some h
  exact ⟨rfl, St.mt_ob hm⟩

theorem mapOf_sound {s s' : St} {id : Nat} {es : List (AV × AV × Nat)} {clock : Nat} {μ : Mu} {w : World} (hR : Rep base μ s.heap.get w) (h : mapOf id s = some ((es, clock), s')) :
    s' = s ∧ s.heap.get id = some (.map es clock) ∧ ∃ i E, μ id = some i ∧ w.heap[i.blk]? = some (.map E clock) ∧ EntsR μ es E.toList := by
  unfold mapOf at h
  obtain ⟨o, s1, h1, h2⟩ := DM.bind_some h
  obtain ⟨rfl, ho, _⟩ := objD_sound hR h1
  cases o with
  | map es' clock' =>
    obtain ⟨h3, rfl⟩ := DM.pure_some h2
    cases h3
    obtain ⟨i, hi, E, hE, hr⟩ := hR.obj id _ ho trivial (by simp)
    exact ⟨rfl, ho, i, E, hi, hE, hr⟩
  | _ => exact (DM.fail_some h2).elim

theorem EntsR.length {μ : Mu} : ∀ {es : List (AV × AV × Nat)} {l : List MapEntry}, EntsR μ es l → es.length = l.length
  | [], l, h => by simp only [EntsR] at h; subst h; rfl
  | (k, v, b) :: es, l, h => by
    simp only [EntsR] at h
    obtain ⟨e, l', rfl, _, _, _, hr⟩ := h
    simp [EntsR.length hr]

theorem len_sim (hC : TyOk P C) {t ty : Nat} {x a : AV} {xv : Value} {μ : Mu} {s s' : St} {w : World} {ts : Array TypeId} (hts : ts[0]? = some t) (hR : Rep base μ s.heap.get w) (hx : VR μ x xv) (h : lenB C t x s = some (a, s')) :
    OpOut P base μ s s' (Builtin.len_ ts ty #[xv]) w a := by
  have arr : (do
      let (n, _) ← DM.lift (arr? C t)
      DM.pure (AV.int .i64 n)) s = some (a, s') → OpOut P base μ s s' (Builtin.len_ ts ty #[xv]) w a := by
    intro h
    simp only [DM.lift_bind, DM.pure_iff] at h
    obtain ⟨⟨n, e⟩, he, rfl, rfl⟩ := h
    have hu := und_ok hC (arr?_some he)
    exact ⟨μ, w, goInt n, by simp [Builtin.len_, hts, run_underlying hu], hR, Ext'.refl _ _ _, goInt_rel _ _, rfl⟩
  unfold lenB at h
  split at h
  · simp only [DM.guard_bind, DM.pure_iff] at h
    obtain ⟨he, rfl, rfl⟩ := h
    have hu := und_ok hC (isStr_some he)
    simp only [VR] at hx; subst hx
    rename_i b
    have hsz : ByteArray.size ⟨b.toArray⟩ = b.length := by simp [ByteArray.size]
    exact ⟨μ, w, goInt b.length, by simp [Builtin.len_, hts, run_underlying hu, hsz], hR, Ext'.refl _ _ _, goInt_rel _ _, rfl⟩
  · simp only [DM.lift_bind, DM.pure_iff] at h
    obtain ⟨e, he, rfl, rfl⟩ := h
    have hu := und_ok hC (elem?_some he)
    simp only [VR] at hx; subst hx
    exact ⟨μ, w, goInt 0, by simp [Builtin.len_, hts, run_underlying hu], hR, Ext'.refl _ _ _, goInt_rel _ _, rfl⟩
  · simp only [DM.lift_bind, DM.pure_iff] at h
    obtain ⟨e, he, rfl, rfl⟩ := h
    have hu := und_ok hC (elem?_some he)
    simp only [VR] at hx
    obtain ⟨j, ad, hj, rfl, hle, had⟩ := hx
    exact ⟨μ, w, goInt _, by simp [Builtin.len_, hts, run_underlying hu], hR, Ext'.refl _ _ _, goInt_rel _ _, rfl⟩
  · simp only [DM.lift_bind, DM.pure_iff] at h
    obtain ⟨⟨k, e⟩, he, rfl, rfl⟩ := h
    have hu := und_ok hC (mapTy?_some he)
    simp only [VR] at hx; subst hx
    exact ⟨μ, w, goInt 0, by simp [Builtin.len_, hts, run_underlying hu], hR, Ext'.refl _ _ _, goInt_rel _ _, rfl⟩
  · simp only [DM.lift_bind] at h
    obtain ⟨⟨k, e⟩, he, h⟩ := h
    have hu := und_ok hC (mapTy?_some he)
    obtain ⟨⟨es, clock⟩, s1, h1, h2⟩ := DM.bind_some h
    obtain ⟨rfl, rfl⟩ := DM.pure_some h2
    obtain ⟨rfl, hg, i, E, hi, hE, hr⟩ := mapOf_sound hR h1
    simp only [VR] at hx
    obtain ⟨j, hj, rfl⟩ := hx
    rw [hi] at hj; cases hj
    have hl := hr.length
    simp only [Array.length_toList] at hl
    exact ⟨μ, w, goInt _, by simp [Builtin.len_, hts, run_underlying hu, run_getObj hE (by simp), hl], hR, Ext'.refl _ _ _, goInt_rel _ _, rfl⟩
  · exact arr h

end Pd
