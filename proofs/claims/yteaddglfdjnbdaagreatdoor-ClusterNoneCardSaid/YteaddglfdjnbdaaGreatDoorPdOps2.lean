/-
  The evaluator's operations and the model's: making, slices, append, copy.
-/
import Derived.Test.YteaddglfdjnbdaaGreatDoorPdOps1
import Derived.Laws.Append
import Derived.Laws.Tables
import Derived.IntWalk
set_option linter.unusedVariables false
set_option linter.unusedSimpArgs false
namespace Pd
open Go
variable {P : Program} {C : Ctx} {base : World}

theorem elem?_some {t e : Nat} (h : elem? C t = some e) : und C t = some (.slice e) := by
  unfold elem? at h
  split at h
  · rename_i e' hu; cases h; exact hu
  · cases h

theorem arr?_some {t n e : Nat} (h : arr? C t = some (n, e)) : und C t = some (.array n e) := by
  unfold arr? at h
  split at h
  · rename_i n' e' hu; cases h; exact hu
  · cases h

theorem fields?_some {t : Nat} {fs : Array Field} (h : fields? C t = some fs) : und C t = some (.struct fs) := by
  unfold fields? at h
  split at h
  · rename_i fs hu; cases h; exact hu
  · cases h

theorem mapTy?_some {t k e : Nat} (h : mapTy? C t = some (k, e)) : und C t = some (.map k e) := by
  unfold mapTy? at h
  split at h
  · rename_i n' e' hu; cases h; exact hu
  · cases h

theorem isStr_some {t : Nat} (h : isStr C t = true) : und C t = some .string := by
  unfold isStr at h
  split at h
  · assumption
  · cases h

theorem ptrTy?_some {t e : Nat} (h : ptrTy? C t = some e) : und C t = some (.pointer e) := by
  unfold ptrTy? at h
  split at h
  · rename_i e' hu; cases h; exact hu
  · cases h

/-- Related parts, by their numbers. -/
def PartsR (μ : Mu) (as : List (Nat × AV)) (vs : List (Nat × Value)) : Prop := vs.map (·.1) = as.map (·.1) ∧ VRs μ (as.map (·.2)) (vs.map (·.2))

theorem places_run (hC : TyOk P C) : ∀ (fs : List Field) (ps : List (Nat × Nat)), placesD C fs = some ps → ∀ w, (fs.mapM fun f => (do pure (f.offset, ← Go.sizeOf f.type) : Sem (Nat × Nat))).run P w = .ok ps w
  | [], ps, h, w => by cases h; rfl
  | f :: fs, ps, h, w => by
    unfold placesD at h
    cases hs : sizeOf? C f.type with
    | none => rw [hs] at h; cases h
    | some n =>
      rw [hs] at h
      cases hp : placesD C fs with
      | none => rw [hp] at h; cases h
      | some ps' =>
        rw [hp] at h; cases h
        have ih := places_run hC fs ps' hp w
        simp only [List.mapM_cons, Sem.run_bind, sizeOf_ok hC hs, Result.andThen_ok, Sem.run_pure]
        rw [ih]
        rfl

theorem build_sim (hC : TyOk P C) {t : Nat} {as : List (Nat × AV)} {vs : Array (Nat × Value)} {μ : Mu} {a : AV} (hp : PartsR μ as vs.toList) (h : buildD C t as = some a) : ∃ v, (∀ w, (Instr.build t vs).run P w = .ok v w) ∧ VR μ a v := by
  unfold buildD at h
  cases hz : zero? C t with
  | none => rw [hz] at h; cases h
  | some zero =>
    obtain ⟨z, hzr, hzv⟩ := zero_ok hC hz
    rw [hz] at h
    cases hu : und C t with
    | none => rw [hu] at h; cases h
    | some d =>
      rw [hu] at h
      have hu' := und_ok hC hu
      cases d with
      | struct fields =>
        simp only at h
        cases hpl : placesD C fields.toList with
        | none => rw [hpl] at h; cases h
        | some ps =>
          rw [hpl] at h
          simp only at h
          cases hf : fill (fun i => ps[i]?) zero.cells as with
          | none => rw [hf] at h; cases h
          | some r =>
            rw [hf] at h; cases h
            obtain ⟨ys, hys, hr⟩ := fill_sim (place' := fun i => ps.toArray[i]?) (fun i q hq => by simpa using hq) as _ r z.cells vs.toList hf (hzv μ).cells hp.1 hp.2
            refine ⟨.agg ys, fun w => ?_, by simp only [VR]; exact ⟨ys, rfl, hr⟩⟩
            have hpr := places_run hC fields.toList ps hpl w
            simp only [Instr.build, Sem.run_bind, hzr, Result.andThen_ok, run_underlying hu', Array.mapM_eq_mapM_toList, Sem.run_map, hpr, hys, Sem.run_pure]
      | array n elem =>
        simp only at h
        cases hs : sizeOf? C elem with
        | none => rw [hs] at h; cases h
        | some size =>
          rw [hs] at h
          simp only at h
          cases hf : fill (fun i => some (i * size, size)) zero.cells as with
          | none => rw [hf] at h; cases h
          | some r =>
            rw [hf] at h; cases h
            obtain ⟨ys, hys, hr⟩ := fill_sim (place' := fun i => some (i * size, size)) (fun i q hq => hq) as _ r z.cells vs.toList hf (hzv μ).cells hp.1 hp.2
            refine ⟨.agg ys, fun w => ?_, by simp only [VR]; exact ⟨ys, rfl, hr⟩⟩
            simp only [Instr.build, Sem.run_bind, hzr, Result.andThen_ok, run_underlying hu', sizeOf_ok hC hs, hys, Sem.run_pure]
      | _ => cases h

theorem rep_length (z : List AV) : ∀ n, (rep z n).length = n * z.length
  | 0 => by simp [rep]
  | n + 1 => by rw [rep, List.length_append, rep_length z n, Nat.succ_mul]; omega

theorem rep_get (z : List AV) : ∀ (n k : Nat), k < n * z.length → (rep z n)[k]? = z[k % z.length]?
  | 0, k, h => by omega
  | n + 1, k, h => by
    rw [rep]
    rw [Nat.succ_mul] at h
    by_cases hk : k < z.length
    · rw [List.getElem?_append_left hk, Nat.mod_eq_of_lt hk]
    · rw [List.getElem?_append_right (by omega), rep_get z n _ (by omega)]
      congr 1
      have := Nat.mod_eq_sub_mod (a := k) (b := z.length) (by omega)
      exact this.symm

/-- So many zero values, in the model's words. -/
theorem rep_rel {μ : Mu} {za : List AV} {z : Array Value} (h : VRs μ za z.toList) (n m : Nat) (hm : m = n * za.length) : VRs μ (rep za n) ((Array.range m).map (z[· % z.size]!)).toList := by
  have hl := h.length
  simp only [Array.length_toList] at hl
  refine VRs.iff.2 ⟨by simp [rep_length, hm], fun k x hx => ?_⟩
  have hk : k < n * za.length := by
    have := (List.getElem?_eq_some_iff.1 hx).1
    rwa [rep_length] at this
  rw [rep_get _ _ _ hk] at hx
  obtain ⟨y, hy, hr⟩ := h.get hx
  refine ⟨y, ?_, hr⟩
  have hk' : k < m := by omega
  simp only [Array.toList_map, Array.toList_range, List.getElem?_map, List.getElem?_range hk', Option.map_some, Option.some.injEq]
  have hlt : k % za.length < z.size := by
    have := (List.getElem?_eq_some_iff.1 hy).1
    simpa using this
  rw [← hl]
  rw [getElem!_pos z _ hlt]
  rw [Array.getElem?_toList, Array.getElem?_eq_getElem hlt] at hy
  exact Option.some.inj hy

theorem buildSlice_sim (hC : TyOk P C) {t n : Nat} {as : List (Nat × AV)} {vs : Array (Nat × Value)} {μ : Mu} {a : AV} {s s' : St} {w : World} (hR : Rep base μ s.heap.get w) (hp : PartsR μ as vs.toList)
    (h : buildSliceD C t n as s = some (a, s')) (hF : Fresh μ s.heap.get s.ctr s'.ctr) :
    ∃ μ' w' v, (Instr.buildSlice t n vs).run P w = .ok v w' ∧ Rep base μ' s'.heap.get w' ∧ Ext' μ μ' s.ctr s'.ctr ∧ VR μ' a v ∧ s'.rc = s.rc := by
  unfold buildSliceD at h
  simp only [DM.lift_bind, DM.guard_bind] at h
  obtain ⟨elem, hu, size, hs, zero, hz, hb, hzl, cells, hf, h⟩ := h
  obtain ⟨id, s6, h11, h12⟩ := DM.bind_some h
  obtain ⟨rfl, rfl⟩ := DM.pure_some h12
  · have hu' := und_ok hC (elem?_some hu)
    obtain ⟨z, hzr, hzv⟩ := zero_ok hC hz
    have hzl' := Nat.beq_true hzl
    have hle := of_ble hb
    have hzc := (hzv μ).cells
    have key : ∃ xs : Array Value, (if n * size = 0 then (pure #[] : Sem (Array Value)) else do pure (← zeroValue elem).cells).run P w = .ok xs w ∧ VRs μ (rep zero.cells n) ((Array.range (n * size)).map (xs[· % xs.size]!)).toList := by
      by_cases h0 : n * size = 0
      · rw [if_pos h0]
        refine ⟨#[], rfl, ?_⟩
        rw [h0]
        have : rep zero.cells n = [] := List.length_eq_zero_iff.1 (by rw [rep_length, hzl', h0])
        rw [this]; simp [VRs]
      · rw [if_neg h0]
        exact ⟨z.cells, by simp [hzr], rep_rel hzc n (n * size) (by rw [hzl'])⟩
    obtain ⟨xs, hxr, hxv⟩ := key
    obtain ⟨ys, hys, hyv⟩ := fill_sim (place' := fun i => some (i * size, size)) (fun i q hq => hq) as _ cells _ vs.toList hf hxv hp.1 hp.2
    obtain ⟨i, hrun, hR', hE, hoff, hcs, rfl, hctr, hrc, _⟩ := newCells_sim (P := P) hR hyv h11 hF
    refine ⟨_, _, .slice (some ⟨i.blk, 0, none⟩) n n, ?_, hR', hE, ?_, hrc⟩
    · simp only [Instr.buildSlice, Sem.run_bind, run_underlying hu', Result.andThen_ok, sizeOf_ok hC hs]
      rw [if_neg (by omega)]
      by_cases h0 : n * size = 0
      · rw [if_pos h0] at hxr ⊢
        simp only [Sem.run_pure, Result.ok.injEq] at hxr
        obtain ⟨rfl, _⟩ := hxr
        simp only [Sem.run_pure, Result.andThen_ok, hys, Sem.run_bind, hrun]
      · rw [if_neg h0] at hxr ⊢
        simp only [Sem.run_bind, hzr, Result.andThen_ok, Sem.run_pure, Result.ok.injEq] at hxr ⊢
        obtain ⟨rfl, _⟩ := hxr
        simp only [hys, Sem.run_bind, Sem.run_pure, hrun, Result.andThen_ok]
    · simp only [VR]
      exact ⟨i, _, upd_self _ _ _, rfl, Nat.le_refl _, fun _ => by rw [hoff]⟩

theorem toNat?_some {n : Int} {k : Nat} (h : toNat? n = some k) : n = (k : Int) := by
  cases n with
  | ofNat a => simp only [toNat?, Option.some.injEq] at h; subst h; rfl
  | negSucc a => cases h

theorem wrap64_small {n : Nat} (h : n < 9223372036854775808) : IntKind.i64.wrap (n : Int) = n := IntWalk.i64_in _ ⟨by omega, by omega⟩

theorem natOf_some {μ : Mu} {x : AV} {v : Value} {n : Nat} (h : natOf x = some n) (hv : VR μ x v) : ∃ k, x = .int k n ∧ v = .int k n := by
  cases x with
  | int k m =>
    simp only [natOf] at h
    have := toNat?_some h
    subst this
    exact ⟨k, rfl, by simpa only [VR] using hv⟩
  | _ => cases h

theorem makeSlice_sim (hC : TyOk P C) {t : Nat} {l c a : AV} {lv cv : Value} {μ : Mu} {s s' : St} {w : World} (hR : Rep base μ s.heap.get w) (hl : VR μ l lv) (hc : VR μ c cv)
    (h : makeSliceD C t l c s = some (a, s')) (hF : Fresh μ s.heap.get s.ctr s'.ctr) :
    ∃ μ' w' v, (Instr.makeSlice t lv cv).run P w = .ok v w' ∧ Rep base μ' s'.heap.get w' ∧ Ext' μ μ' s.ctr s'.ctr ∧ VR μ' a v ∧ s'.rc = s.rc := by
  unfold makeSliceD at h
  simp only [DM.lift_bind, DM.guard_bind] at h
  obtain ⟨elem, hu, i, hi, zero, hz, ln', hln, cn', hcn, hb1, hb2, hb3, h⟩ := h
  obtain ⟨id, s8, h15, h16⟩ := DM.bind_some h
  obtain ⟨rfl, rfl⟩ := DM.pure_some h16
  · have hu' := und_ok hC (elem?_some hu)
    obtain ⟨kl, rfl, rfl⟩ := natOf_some hln hl
    obtain ⟨kc, rfl, rfl⟩ := natOf_some hcn hc
    have hle := of_ble hb1
    simp only [Bool.and_eq_true, Nat.ble_eq] at hb2
    have hzl := Nat.beq_true hb3
    obtain ⟨z, hzr, hzv⟩ := zero_ok hC hz
    have hit := hC.ty _ _ hi
    have hzc := (hzv μ).cells
    have hwl := wrap64_small (n := ln') (by omega)
    have hwc := wrap64_small (n := cn') (by omega)
    have hbytes : i.bytes * cn' ≤ 1024 * 1073741824 := Nat.mul_le_mul hb2.2 hb2.1
    have key : ∃ xs : Array Value, (if cn' * i.size = 0 then (pure #[] : Sem (Array Value)) else do pure (← zeroValue elem).cells).run P w = .ok xs w ∧ VRs μ (rep zero.cells cn') ((Array.range (cn' * i.size)).map (xs[· % xs.size]!)).toList := by
      by_cases h0 : cn' * i.size = 0
      · rw [if_pos h0]
        refine ⟨#[], rfl, ?_⟩
        rw [h0]
        have : rep zero.cells cn' = [] := List.length_eq_zero_iff.1 (by rw [rep_length, hzl, h0])
        rw [this]; simp [VRs]
      · rw [if_neg h0]
        exact ⟨z.cells, by simp [hzr], rep_rel hzc cn' _ (by rw [hzl])⟩
    obtain ⟨xs, hxr, hxv⟩ := key
    obtain ⟨i', hrun, hR', hE, hoff, hcs, rfl, hctr, hrc, _⟩ := newCells_sim (P := P) hR hxv h15 hF
    refine ⟨_, _, .slice (some ⟨i'.blk, 0, none⟩) ln' cn', ?_, hR', hE, ?_, hrc⟩
    · simp only [Instr.makeSlice, Sem.run_bind, run_underlying hu', Result.andThen_ok, asInt, asIntOf, Sem.run_pure, run_typeInfo hit, hwl, hwc]
      have c1 : ¬((decide ((cn' : Int) < 0) || decide ((i.bytes : Int) * (cn' : Int) > 2 ^ 48)) = true ∨ (ln' : Int) < 0 ∨ (ln' : Int) > (cn' : Int)) := by
        simp only [Bool.or_eq_true, decide_eq_true_eq]
        have hb' : ((i.bytes * cn' : Nat) : Int) ≤ ((1024 * 1073741824 : Nat) : Int) := Int.ofNat_le.2 hbytes
        rw [Int.natCast_mul] at hb'
        omega
      have c2 : ¬(((decide ((cn' : Int) < 0) || decide ((i.bytes : Int) * (cn' : Int) > 2 ^ 48)) || decide ((ln' : Int) < 0) || decide ((ln' : Int) > (cn' : Int))) = true) := by
        simp only [Bool.or_eq_true, decide_eq_true_eq] at c1 ⊢
        omega
      rw [if_neg c2]
      simp only [Sem.run_bind, Sem.run_pure, Result.andThen_ok, run_askRoom, Int.toNat_natCast]
      have hsz : (Go.sizeOf elem).run P w = .ok i.size w := by simp [Go.sizeOf, run_typeInfo hit]
      simp only [hsz, Result.andThen_ok]
      by_cases h0 : cn' * i.size = 0
      · rw [if_pos h0] at hxr ⊢
        simp only [Sem.run_pure, Result.ok.injEq] at hxr
        obtain ⟨rfl, _⟩ := hxr
        simp only [Sem.run_pure, Result.andThen_ok, Sem.run_bind, hrun]
      · rw [if_neg h0] at hxr ⊢
        simp only [Sem.run_bind, hzr, Result.andThen_ok, Sem.run_pure, Result.ok.injEq] at hxr ⊢
        obtain ⟨rfl, _⟩ := hxr
        simp only [Sem.run_bind, Sem.run_pure, hrun, Result.andThen_ok]
    · simp only [VR]
      exact ⟨i', _, upd_self _ _ _, rfl, hle, fun _ => by rw [hoff]⟩

end Pd
