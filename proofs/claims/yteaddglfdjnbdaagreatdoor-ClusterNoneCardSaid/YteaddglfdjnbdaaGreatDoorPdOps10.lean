/-
  The evaluator's operations and the model's: maps.
-/
import Derived.Test.YteaddglfdjnbdaaGreatDoorPdOps9
set_option linter.unusedVariables false
set_option linter.unusedSimpArgs false
namespace Pd
open Go
variable {P : Program} {C : Ctx} {base : World}

/-! ### Keys -/

theorem checkKey_fields {n : Nat} {emp : Bool} {xs : Array Value} {w : World} : ∀ (fs : List Field), (∀ f ∈ fs, f.name ≠ "_" → ((part f.type xs f.offset).run P w).andThen (fun v w' => (Instr.checkKey emp n f.type v).run P w') = .ok () w) →
    (forIn (m := Sem) fs PUnit.unit (fun f (_ : PUnit) => (do
      if f.name ≠ "_" then
        let v ← part f.type xs f.offset
        Instr.checkKey emp n f.type v
        pure (ForInStep.yield PUnit.unit)
      else pure (ForInStep.yield PUnit.unit) : Sem (ForInStep PUnit)))).run P w = .ok PUnit.unit w
  | [], _ => rfl
  | f :: fs, h => by
    have ih := checkKey_fields fs fun g hg => h g (List.mem_cons_of_mem _ hg)
    have h0 := h f (by simp)
    rw [List.forIn_cons]
    by_cases hn : f.name ≠ "_"
    · have h0 := h0 hn
      simp only [Sem.run_bind, if_pos hn]
      cases hp : (part f.type xs f.offset).run P w with
      | ok v w1 =>
        rw [hp] at h0
        simp only [Result.andThen_ok] at h0 ⊢
        rw [h0]
        simp only [Result.andThen_ok, Sem.run_pure]
        exact ih
      | halt a b => rw [hp] at h0; cases h0
    · simp only [Sem.run_bind, if_neg hn, Sem.run_pure, Result.andThen_ok]
      exact ih

theorem checkKey_flat : ∀ (d : Nat), (∀ (t : TypeId) (ks : List FK) (a : List AV) (xs : List Value) (μ : Mu) (w : World) (n : Nat) (emp : Bool), Flat P d t ks → VRs μ a xs → fits ks a = true → d ≤ n → (Instr.checkKey emp n t (wrapV P t xs)).run P w = .ok () w) ∧
    (∀ (fs : List Field) (off : Nat) (ks : List FK) (a : List AV) (xs : List Value) (μ : Mu) (w : World) (n : Nat) (emp : Bool), FlatFs P d fs off ks → off ≤ xs.length → VRs μ a (xs.drop off) → fits ks a = true → d ≤ n + 1 →
      ∀ f ∈ fs, f.name ≠ "_" → ((part f.type xs.toArray f.offset).run P w).andThen (fun v w' => (Instr.checkKey emp n f.type v).run P w') = .ok () w) := by
  intro d
  induction d with
  | zero => exact ⟨fun _ _ _ _ _ _ _ _ h => by simp only [Flat] at h, fun _ _ _ _ _ _ _ _ _ h => by simp only [FlatFs] at h⟩
  | succ d ih =>
    obtain ⟨ih1, ih2⟩ := ih
    refine ⟨?_, ?_⟩
    · intro t ks a xs μ w n emp hf ha fa hn
      obtain ⟨n, rfl⟩ : ∃ m, n = m + 1 := ⟨n - 1, by omega⟩
      simp only [Flat] at hf
      rcases hf with ⟨hu, rfl⟩ | ⟨k, hu, rfl⟩ | ⟨hu, rfl⟩ | ⟨hu, hst, hfs⟩
      · simp [Instr.checkKey, run_underlying hu]
      · simp [Instr.checkKey, run_underlying hu]
      · simp [Instr.checkKey, run_underlying hu]
      · have hw : wrapV P t xs = .agg xs.toArray := by simp [wrapV, hu]
        rw [hw]
        simp only [Instr.checkKey, Sem.run_bind, run_underlying hu, Result.andThen_ok]
        rw [← Array.forIn_toList]
        have := checkKey_fields (P := P) (emp := emp) (n := n) (xs := xs.toArray) (w := w) (P.fieldsOf t).toList (ih2 _ 0 ks a xs μ w n emp hfs (Nat.zero_le _) (by simpa using ha) fa (by omega))
        rw [this]
        rfl
    · intro fs off ks a xs μ w n emp hf hxo ha fa hn f hfm hname
      cases fs with
      | nil => cases hfm
      | cons f0 fs =>
        simp only [FlatFs] at hf
        obtain ⟨hname0, hoff, k1, k2, rfl, hf1, hs, hf2⟩ := hf
        subst hoff
        obtain ⟨fa1, fa2, fal⟩ := fits_split fa
        have la := ha.length
        simp only [List.length_drop] at la
        rcases List.mem_cons.1 hfm with rfl | hfm
        · have pa := run_part_flat hf1 hs (xs := xs.toArray) (off := f.offset) (by simp; omega) w
          rw [pa]
          simp only [Result.andThen_ok]
          exact ih1 f.type k1 _ _ μ w n emp hf1 (ha.take _) fa1 (by omega)
        · exact ih2 fs (f0.offset + k1.length) k2 _ xs μ w n emp hf2 (by omega) (by have := ha.drop k1.length; rwa [List.drop_drop] at this) fa2 (by omega) f hfm hname

/-- What a search among entries finds. -/
def FindR (μ : Mu) : Option (Nat × AV × Nat) → Option (Nat × Value) → Prop
  | none, none => True
  | some (i, v, _), some (j, x) => i = j ∧ VR μ v x
  | _, _ => False

theorem findNow_sim {μ : Mu} {kk : KK} {k : AV} {kv : Value} {kind : TypeDesc} (hk : ∀ k' kv', VR μ k' kv' → ∀ b, keyEq kk k k' = some b → Instr.sameNow kind kv kv' = some b) :
    ∀ (es : List (AV × AV × Nat)) (E : List MapEntry) (i : Nat) (r : Option (Nat × AV × Nat)), EntsR μ es E → findD kk k es i = some r → ∃ r', Instr.findNow kind kv E i = some r' ∧ FindR μ r r'
  | [], E, i, r, hE, h => by
    simp only [EntsR] at hE; subst hE
    simp only [findD, Option.some.injEq] at h; subst h
    exact ⟨none, rfl, trivial⟩
  | (k', v, b) :: es, E, i, r, hE, h => by
    simp only [EntsR] at hE
    obtain ⟨e, l', rfl, h1, h2, h3, h4⟩ := hE
    unfold findD at h
    cases hq : keyEq kk k k' with
    | none => rw [hq] at h; cases h
    | some q =>
      rw [hq] at h
      have hs := hk k' e.key h1 q hq
      cases q with
      | true =>
        cases h
        exact ⟨some (i, e.val), by unfold Instr.findNow; rw [hs], rfl, h2⟩
      | false =>
        obtain ⟨r', a, b⟩ := findNow_sim hk es l' (i + 1) r h4 h
        exact ⟨r', by unfold Instr.findNow; rw [hs]; exact a, b⟩

theorem findAsking_sim {μ : Mu} {kk : KK} {k : AV} {kv : Value} {kt : TypeId} (hk : ∀ k' kv', VR μ k' kv' → ∀ b, keyEq kk k k' = some b → ∀ w, (Op.equal kt kv kv').run P w = .ok b w) :
    ∀ (es : List (AV × AV × Nat)) (E : List MapEntry) (i : Nat) (r : Option (Nat × AV × Nat)), EntsR μ es E → findD kk k es i = some r → ∃ r', (∀ w, (Instr.findAsking kt kv E i).run P w = .ok r' w) ∧ FindR μ r r'
  | [], E, i, r, hE, h => by
    simp only [EntsR] at hE; subst hE
    simp only [findD, Option.some.injEq] at h; subst h
    exact ⟨none, fun w => rfl, trivial⟩
  | (k', v, b) :: es, E, i, r, hE, h => by
    simp only [EntsR] at hE
    obtain ⟨e, l', rfl, h1, h2, h3, h4⟩ := hE
    unfold findD at h
    cases hq : keyEq kk k k' with
    | none => rw [hq] at h; cases h
    | some q =>
      rw [hq] at h
      have hs := hk k' e.key h1 q hq
      cases q with
      | true =>
        cases h
        exact ⟨some (i, e.val), fun w => by simp [Instr.findAsking, hs], rfl, h2⟩
      | false =>
        obtain ⟨r', a, b⟩ := findAsking_sim hk es l' (i + 1) r h4 h
        exact ⟨r', fun w => by simp [Instr.findAsking, hs, a], b⟩

/-- Cells that are alike are the same to the last bit. -/
theorem sameBits_flat : ∀ {ks : List FK} {a b : List AV} {μ : Mu} {xs ys : List Value}, VRs μ a xs → VRs μ b ys → aeqFlat ks a b = some true → ((ys.zip xs).all fun (x, y) => Instr.sameBits 9999 x y) = true ∧ xs.length = ys.length
  | [], [], [], μ, xs, ys, ha, hb, h => by
    simp only [VRs] at ha hb
    subst ha hb
    exact ⟨rfl, rfl⟩
  | .bool :: ks, .bool p :: a, .bool q :: b, μ, xs, ys, ha, hb, h => by
    simp only [VRs, VR] at ha hb
    obtain ⟨_, xs, rfl, rfl, ha⟩ := ha
    obtain ⟨_, ys, rfl, rfl, hb⟩ := hb
    simp only [aeqFlat] at h
    split at h
    · rename_i hpq
      have hpq : p = q := by simpa using hpq
      subst hpq
      obtain ⟨i1, i2⟩ := sameBits_flat ha hb h
      exact ⟨by simp only [List.zip_cons_cons, List.all_cons, i1, Bool.and_true, Instr.sameBits, beq_self_eq_true], by simp [i2]⟩
    · cases h
  | .int :: ks, .int kp p :: a, .int kq q :: b, μ, xs, ys, ha, hb, h => by
    simp only [VRs, VR] at ha hb
    obtain ⟨_, xs, rfl, rfl, ha⟩ := ha
    obtain ⟨_, ys, rfl, rfl, hb⟩ := hb
    simp only [aeqFlat] at h
    split at h
    · rename_i hk
      have hk := kindEq_eq hk
      subst hk
      split at h
      · rename_i hpq
        rw [ieq_eq] at hpq
        have hpq : p = q := by simpa using hpq
        subst hpq
        obtain ⟨i1, i2⟩ := sameBits_flat ha hb h
        exact ⟨by simp only [List.zip_cons_cons, List.all_cons, i1, Bool.and_true, Instr.sameBits, beq_self_eq_true], by simp [i2]⟩
      · cases h
    · cases h
  | .str :: ks, .str p :: a, .str q :: b, μ, xs, ys, ha, hb, h => by
    simp only [VRs, VR] at ha hb
    obtain ⟨_, xs, rfl, rfl, ha⟩ := ha
    obtain ⟨_, ys, rfl, rfl, hb⟩ := hb
    simp only [aeqFlat] at h
    split at h
    · rename_i hpq
      rw [streq_eq] at hpq
      have hpq : p = q := by simpa using hpq
      subst hpq
      obtain ⟨i1, i2⟩ := sameBits_flat ha hb h
      exact ⟨by simp only [List.zip_cons_cons, List.all_cons, i1, Bool.and_true, Instr.sameBits, beq_toListBytes, bytes_toList, beq_self_eq_true], by simp [i2]⟩
    · cases h

theorem checkKey_leaf {n : Nat} {emp : Bool} {key : TypeId} {d : TypeDesc} {v : Value} (hu : P.underlying key = some d) (h1 : ∀ m, d ≠ .interface m) (h2 : ∀ n e, d ≠ .array n e) (h3 : ∀ fs, d ≠ .struct fs) (w : World) :
    (Instr.checkKey emp (n + 1) key v).run P w = .ok () w := by
  simp only [Instr.checkKey, Sem.run_bind, run_underlying hu, Result.andThen_ok]
  cases d <;> first | exact absurd rfl (h1 _) | exact absurd rfl (h2 _ _) | exact absurd rfl (h3 _) | rfl

/-- What the evaluator knows of a key that it lets pass. -/
structure KeyOk (P : Program) (μ : Mu) (key : TypeId) (kk : KK) (k : AV) (kv : Value) : Prop where
  check : ∀ (emp : Bool) w, (Instr.checkKey emp 10000 key kv).run P w = .ok () w
  find : ∀ (es : List (AV × AV × Nat)) (E : List MapEntry) (r : Option (Nat × AV × Nat)), EntsR μ es E → findD kk k es 0 = some r → ∃ r', (∀ w, (Instr.findKey key kv E).run P w = .ok r' w) ∧ FindR μ r r'
  same : ∀ k' kv', VR μ k' kv' → keyEq kk k k' = some true → Instr.sameBits 10000 kv' kv = true

theorem keyOk (hC : TypesOk P C) {key : Nat} {kk : KK} {k : AV} {kv : Value} {μ : Mu} (hk : keyKind C key = some kk) (hg : keyEq kk k k = some true) (hv : VR μ k kv) : KeyOk P μ key kk k kv := by
  unfold keyKind at hk
  split at hk
  · rename_i kd hu
    cases hk
    have hu := und_ok hC.toTyOk hu
    cases k with
    | int k1 n =>
      simp only [VR] at hv
      subst hv
      have hnow : ∀ k' kv', VR μ k' kv' → ∀ b, keyEq .int (.int k1 n) k' = some b → Instr.sameNow (.int kd) (.int k1 n) kv' = some b ∧ (b = true → kv' = .int k1 n) := by
        intro k' kv' hv' b hb
        cases k' with
        | int k2 m =>
          simp only [VR] at hv'
          subst hv'
          simp only [keyEq] at hb
          split at hb
          · rename_i hkk
            have hkk := kindEq_eq hkk
            subst hkk
            cases hb
            rw [ieq_eq]
            exact ⟨by simp [Instr.sameNow], fun h => by simp at h; rw [h]⟩
          · cases hb
        | _ => cases hb
      refine ⟨fun emp w => checkKey_leaf (n := 9999) hu (by simp) (by simp) (by simp) w, fun es E r hE h => ?_, fun k' kv' hv' hb => ?_⟩
      · obtain ⟨r', h1, h2⟩ := findNow_sim (fun k' kv' a b c => (hnow k' kv' a b c).1) es E 0 r hE h
        exact ⟨r', fun w => by simp [Instr.findKey, run_underlying hu, h1], h2⟩
      · rw [(hnow k' kv' hv' true hb).2 rfl]
        simp [Instr.sameBits]
    | _ => cases hg
  · rename_i hu
    cases hk
    have hu := und_ok hC.toTyOk hu
    cases k with
    | str n =>
      simp only [VR] at hv
      subst hv
      have hnow : ∀ k' kv', VR μ k' kv' → ∀ b, keyEq .str (.str n) k' = some b → Instr.sameNow .string (.string ⟨n.toArray⟩) kv' = some b ∧ (b = true → kv' = .string ⟨n.toArray⟩) := by
        intro k' kv' hv' b hb
        cases k' with
        | str m =>
          simp only [VR] at hv'
          subst hv'
          simp only [keyEq] at hb
          cases hb
          rw [streq_eq]
          exact ⟨by simp only [Instr.sameNow, beq_toListBytes, bytes_toList], fun h => by simp at h; rw [h]⟩
        | _ => cases hb
      refine ⟨fun emp w => checkKey_leaf (n := 9999) hu (by simp) (by simp) (by simp) w, fun es E r hE h => ?_, fun k' kv' hv' hb => ?_⟩
      · obtain ⟨r', h1, h2⟩ := findNow_sim (fun k' kv' a b c => (hnow k' kv' a b c).1) es E 0 r hE h
        exact ⟨r', fun w => by simp [Instr.findKey, run_underlying hu, h1], h2⟩
      · rw [(hnow k' kv' hv' true hb).2 rfl]
        simp [Instr.sameBits, beq_toListBytes]
    | _ => cases hg
  · rename_i fs hu
    split at hk
    · rename_i ks hfl
      cases hk
      obtain ⟨d, hd, hF, ⟨fs', hu'⟩, _⟩ := hC.flat key ks hfl
      cases k with
      | agg a =>
        simp only [VR] at hv
        obtain ⟨xs, rfl, hx⟩ := hv
        simp only [keyEq] at hg
        split at hg
        · rename_i hfit
          simp only [Bool.and_eq_true] at hfit
          have hwv : ∀ l : Array Value, wrapV P key l.toList = .agg l := fun l => by simp [wrapV, hu']
          have heq : ∀ k' kv', VR μ k' kv' → ∀ b, keyEq (.flat ks) (.agg a) k' = some b → (∀ w, (Op.equal key (.agg xs) kv').run P w = .ok b w) ∧ (b = true → Instr.sameBits 10000 kv' (.agg xs) = true) ∧ Instr.sameNow (.struct fs') (.agg xs) kv' = none := by
            intro k' kv' hv' b hb
            cases k' with
            | agg a' =>
              simp only [VR] at hv'
              obtain ⟨ys, rfl, hy⟩ := hv'
              simp only [keyEq] at hb
              split at hb
              · rename_i hfit2
                simp only [Bool.and_eq_true] at hfit2
                refine ⟨fun w => ?_, fun hbt => ?_, rfl⟩
                · have := (equalIn_flat (P := P) d).1 key ks a a' xs.toList ys.toList b μ w 10000 hF hx hy hfit2.1 hfit2.2 hb hd
                  rw [hwv, hwv] at this
                  exact this
                · subst hbt
                  obtain ⟨i1, i2⟩ := sameBits_flat hx hy hb
                  simp only [Array.length_toList] at i2
                  show ((ys.size == xs.size) && ((ys.toList.zip xs.toList).all fun (x, y) => Instr.sameBits 9999 x y)) = true
                  rw [i1, i2]
                  simp
              · cases hb
            | _ => cases hb
          refine ⟨fun emp w => ?_, fun es E r hE h => ?_, fun k' kv' hv' hb => (heq k' kv' hv' true hb).2.1 rfl⟩
          · have := (checkKey_flat (P := P) d).1 key ks a xs.toList μ w 10000 emp hF hx hfit.1 hd
            rwa [hwv] at this
          · obtain ⟨r', h1, h2⟩ := findAsking_sim (fun k' kv' a b c => (heq k' kv' a b c).1) es E 0 r hE h
            cases E with
            | nil =>
              have := h1 (default : World)
              simp only [Instr.findAsking, Sem.run_pure, Result.ok.injEq] at this
              refine ⟨r', fun w => ?_, h2⟩
              simp [Instr.findKey, run_underlying hu', Instr.findNow, this.1]
            | cons e E =>
              refine ⟨r', fun w => ?_, h2⟩
              cases es with
              | nil => simp only [EntsR] at hE; cases hE
              | cons x es =>
                obtain ⟨k', v', b'⟩ := x
                have hE' := hE
                simp only [EntsR] at hE'
                obtain ⟨e', l', he, hk', _⟩ := hE'
                cases he
                have hnone : Instr.sameNow (.struct fs') (.agg xs) e.key = none := by
                  unfold findD at h
                  cases hq : keyEq (.flat ks) (.agg a) k' with
                  | none => rw [hq] at h; cases h
                  | some q => exact (heq k' e.key hk' q hq).2.2
                simp [Instr.findKey, run_underlying hu', Instr.findNow, hnone, h1]
        · cases hg
      | _ => cases hg
    · cases hk
  · cases hk

end Pd
