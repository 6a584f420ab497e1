/-
  The evaluator's operations and the model's: parts of values, addresses, conversions, type assertions.
-/
import Derived.Test.YteaddglfdjnbdaaGreatDoorPdOps7
set_option linter.unusedVariables false
set_option linter.unusedSimpArgs false
namespace Pd
open Go
variable {P : Program} {C : Ctx} {base : World}

theorem un_sim {op : UnOp} {x r : AV} {xv : Value} {μ : Mu} (hx : VR μ x xv) (h : unD op x = some r) : ∃ v, (∀ w, (Op.unary op xv).run P w = .ok v w) ∧ VR μ r v := by
  unfold unD at h
  split at h
  · cases h
    simp only [VR] at hx; subst hx
    rename_i b
    exact ⟨.bool (!b), fun w => by simp [Op.unary], by simp only [VR]⟩
  · cases h
    simp only [VR] at hx; subst hx
    rename_i k n
    exact ⟨.int k (k.wrap (0 - n)), fun w => by simp [Op.unary, Op.intArith], by simp only [VR, wrapF_eq]⟩
  · cases h

theorem part_sim (hC : TyOk P C) {t off : Nat} {cs : List AV} {r : AV} {xs : Array Value} {μ : Mu} (hx : VRs μ cs xs.toList) (h : partD C t off cs = some r) : ∃ v, (∀ w, (part t xs off).run P w = .ok v w) ∧ VR μ r v := by
  unfold partD at h
  cases ha : isAgg? C t with
  | none => rw [ha] at h; cases h
  | some b =>
    rw [ha] at h
    cases b with
    | true =>
      simp only at h
      cases hs : sizeOf? C t with
      | none => rw [hs] at h; cases h
      | some n =>
        rw [hs] at h
        simp only at h
        split at h
        · cases h
          refine ⟨.agg (xs.extract off (off + n)), fun w => by simp [part, isAgg_ok hC ha, sizeOf_ok hC hs], ?_⟩
          simp only [VR]
          refine ⟨_, rfl, ?_⟩
          have := (hx.drop off).take n
          rw [Array.toList_extract]
          simpa [List.extract_eq_take_drop] using this
        · cases h
    | false =>
      simp only at h
      obtain ⟨y, hy, hr⟩ := hx.get h
      rw [Array.getElem?_toList] at hy
      exact ⟨y, fun w => by simp [part, isAgg_ok hC ha, hy], hr⟩

theorem field_sim (hC : TyOk P C) {t f : Nat} {x r : AV} {xv : Value} {μ : Mu} {s s' : St} (hx : VR μ x xv) (h : fieldD C t f x s = some (r, s')) : s' = s ∧ ∃ v, (∀ w, (Instr.field t xv f).run P w = .ok v w) ∧ VR μ r v := by
  unfold fieldD at h
  split at h
  · simp only [DM.lift_bind, DM.lift_iff] at h
    obtain ⟨fs, hfs, fd, hfd, hp, rfl⟩ := h
    simp only [VR] at hx
    obtain ⟨xs, rfl, hx⟩ := hx
    obtain ⟨v, hv, hr⟩ := part_sim (P := P) hC hx hp
    have hu := und_ok hC (fields?_some hfs)
    have hfd' : fs[f]? = some fd := by simpa using hfd
    exact ⟨rfl, v, fun w => by simp [Instr.field, run_underlying hu, hfd', asAgg, hv], hr⟩
  · exact (DM.fail_some h).elim

theorem fieldAddr_sim (hC : TyOk P C) {t f : Nat} {x r : AV} {xv : Value} {μ : Mu} {s s' : St} (hx : VR μ x xv) (h : fieldAddrD C t f x s = some (r, s')) : s' = s ∧ ∃ v, (∀ w, (Instr.fieldAt t xv f).run P w = .ok v w) ∧ VR μ r v := by
  unfold fieldAddrD at h
  split at h
  · simp only [DM.lift_bind, DM.guard_bind, DM.pure_iff] at h
    obtain ⟨fs, hfs, fd, hfd, n, hn, h0, rfl, rfl⟩ := h
    simp only [VR] at hx
    obtain ⟨i, hi, rfl⟩ := hx
    have hu := und_ok hC (fields?_some hfs)
    have hfd' : fs[f]? = some fd := by simpa using hfd
    have h0 := of_blt h0
    have hn0 : n ≠ 0 := by omega
    refine ⟨rfl, _, fun w => by simp [Instr.fieldAt, run_underlying hu, hfd', Instr.sureAddr, fieldPlace, sizeOf_ok hC hn, hn0, Addr.add_eq]; rfl, ?_⟩
    simp only [VR]
    exact ⟨i, hi, by rw [Nat.add_assoc]⟩
  · exact (DM.fail_some h).elim

theorem indexAddr_sim (hC : TyOk P C) {t : Nat} {x ix r : AV} {xv iv : Value} {μ : Mu} {s s' : St} (hx : VR μ x xv) (hi : VR μ ix iv) (h : indexAddrD C t x ix s = some (r, s')) : s' = s ∧ ∃ v, (∀ w, (Instr.indexAt t xv iv).run P w = .ok v w) ∧ VR μ r v := by
  unfold indexAddrD at h
  split at h
  · rename_i id off len c
    simp only [DM.lift_bind, DM.guard_bind, DM.pure_iff] at h
    obtain ⟨e, he, i, hin, hlt, sz, hs, rfl, rfl⟩ := h
    have hlt := of_blt hlt
    simp only [VR] at hx
    obtain ⟨j, ad, hj, rfl, hle, had⟩ := hx
    obtain ⟨k, _, rfl⟩ := natOf_some hin hi
    have hu := und_ok hC (elem?_some he)
    have had := had (by omega)
    subst had
    have h1 : (0 : Int) ≤ (i : Int) ∧ (i : Int) < (len : Int) := by omega
    refine ⟨rfl, .pointer (some ⟨j.blk, j.off + off + i * sz, none⟩), fun w => ?_, ?_⟩
    · simp only [Instr.indexAt, asIntOf, Sem.run_bind, Sem.run_pure, Result.andThen_ok, run_underlying hu]
      split <;> simp [h1, sizeOf_ok hC hs, Addr.add_eq]
    · simp only [VR]
      exact ⟨j, hj, by rw [Nat.add_assoc]⟩
  · rename_i id off
    simp only [DM.lift_bind, DM.guard_bind, DM.pure_iff] at h
    obtain ⟨⟨n, e⟩, he, i, hin, hlt, sz, hs, rfl, rfl⟩ := h
    have hlt := of_blt hlt
    simp only [VR] at hx
    obtain ⟨j, hj, rfl⟩ := hx
    obtain ⟨k, _, rfl⟩ := natOf_some hin hi
    have hu := und_ok hC (arr?_some he)
    have h1 : (0 : Int) ≤ (i : Int) ∧ (i : Int) < (n : Int) := by simp only at hlt; omega
    refine ⟨rfl, .pointer (some ⟨j.blk, j.off + off + i * sz, none⟩), fun w => ?_, ?_⟩
    · simp only [Instr.indexAt, asIntOf, Instr.sureAddr, Sem.run_bind, Sem.run_pure, Result.andThen_ok, run_underlying hu]
      split <;> simp [h1, sizeOf_ok hC hs, Addr.add_eq]
    · simp only [VR]
      exact ⟨j, hj, by rw [Nat.add_assoc]⟩
  · exact (DM.fail_some h).elim

theorem index_sim (hC : TyOk P C) {t : Nat} {x ix r : AV} {xv iv : Value} {μ : Mu} {s s' : St} (hx : VR μ x xv) (hi : VR μ ix iv) (h : indexD C t x ix s = some (r, s')) : s' = s ∧ ∃ v, (∀ w, (Instr.index t xv iv).run P w = .ok v w) ∧ VR μ r v := by
  unfold indexD at h
  split at h
  · rename_i b
    simp only [DM.lift_bind, DM.guard_bind, DM.pure_iff] at h
    obtain ⟨he, i, hin, c, hc, rfl, rfl⟩ := h
    simp only [VR] at hx
    subst hx
    obtain ⟨k, _, rfl⟩ := natOf_some hin hi
    have hu := und_ok hC (isStr_some he)
    have hg : (⟨b.toArray⟩ : ByteArray)[i]? = some c := by
      obtain ⟨hlt, hbe⟩ := List.getElem?_eq_some_iff.1 hc
      have hlt' : i < ByteArray.size ⟨b.toArray⟩ := by simpa [ByteArray.size] using hlt
      rw [getElem?_pos (⟨b.toArray⟩ : ByteArray) i hlt']
      congr 1
    refine ⟨rfl, .int .u8 c.toNat, fun w => ?_, by simp only [VR]⟩
    simp [Instr.index, asIntOf, run_underlying hu, hg]
  · rename_i cs
    simp only [DM.lift_bind, DM.guard_bind, DM.lift_iff] at h
    obtain ⟨⟨n, e⟩, he, i, hin, hlt, sz, hs, hp, rfl⟩ := h
    have hlt := of_blt hlt
    simp only [VR] at hx
    obtain ⟨xs, rfl, hx⟩ := hx
    obtain ⟨k, _, rfl⟩ := natOf_some hin hi
    have hu := und_ok hC (arr?_some he)
    obtain ⟨v, hv, hr⟩ := part_sim (P := P) hC hx hp
    have h1 : (0 : Int) ≤ (i : Int) ∧ (i : Int) < (n : Int) := by simp only at hlt; omega
    exact ⟨rfl, v, fun w => by simp [Instr.index, asIntOf, run_underlying hu, show i < n from hlt, sizeOf_ok hC hs, hv], hr⟩
  · exact (DM.fail_some h).elim

theorem nthOf_sim {x r : AV} {xv : Value} {i : Nat} {μ : Mu} (hx : VR μ x xv) (h : nthOf x i = some r) : ∃ v, (∀ w, (Instr.extract xv i).run P w = .ok v w) ∧ VR μ r v := by
  unfold nthOf at h
  split at h
  · simp only [VR] at hx
    obtain ⟨xs, rfl, hx⟩ := hx
    obtain ⟨y, hy, hr⟩ := hx.get h
    rw [Array.getElem?_toList] at hy
    exact ⟨y, fun w => by simp [Instr.extract, hy], hr⟩
  · cases h

theorem concrete_some {t : Nat} (h : concrete C t = true) : ∃ d, und C t = some d ∧ ∀ m, d ≠ .interface m := by
  unfold concrete at h
  split at h
  · cases h
  · rename_i d hd hu
    exact ⟨d, hu, fun m e => by subst e; exact hd m rfl⟩
  · cases h

theorem makeInterface_sim (hC : TyOk P C) {t : Nat} {x : AV} {xv : Value} {μ : Mu} (hx : VR μ x xv) (h : concrete C t = true) : ∃ v, (∀ w, (Instr.makeInterface t xv).run P w = .ok v w) ∧ VR μ (.iface t x) v := by
  obtain ⟨d, hd, hn⟩ := concrete_some h
  have hu := und_ok hC hd
  refine ⟨.iface t xv, fun w => ?_, by simp only [VR]; exact ⟨xv, rfl, hx⟩⟩
  simp only [Instr.makeInterface, Sem.run_bind, run_underlying hu, Result.andThen_ok]
  cases d <;> first | exact absurd rfl (hn _) | rfl

theorem tassert_sim (hC : TyOk P C) {t xt : Nat} {ok : Bool} {x r : AV} {xv : Value} {μ : Mu} {s s' : St} (hx : VR μ x xv) (h : tassertD C x t ok s = some (r, s')) : s' = s ∧ ∃ v, (∀ w, (Instr.typeAssert xv xt t ok).run P w = .ok v w) ∧ VR μ r v := by
  unfold tassertD at h
  simp only [DM.guard_bind] at h
  obtain ⟨hc, h⟩ := h
  obtain ⟨d, hd, hn⟩ := concrete_some hc
  have hu := und_ok hC hd
  split at h
  · simp only [DM.guard_bind, DM.lift_bind, DM.pure_iff] at h
    obtain ⟨rfl, z, hz, rfl, rfl⟩ := h
    obtain ⟨zv, hzr, hzv⟩ := zero_ok hC hz
    simp only [VR] at hx
    subst hx
    refine ⟨rfl, .tuple #[zv, .bool false], fun w => ?_, ?_⟩
    · simp only [Instr.typeAssert, Sem.run_bind, run_underlying hu, Result.andThen_ok]
      cases d <;> first | exact absurd rfl (hn _) | simp [hzr]
    · simp only [VR, VRs]
      exact ⟨_, rfl, zv, [.bool false], by simp, hzv μ, .bool false, [], rfl, rfl, rfl⟩
  · rename_i t' v'
    simp only [VR] at hx
    obtain ⟨y, rfl, hy⟩ := hx
    cases hb : Nat.beq t' t with
    | true =>
      rw [hb] at h
      have hb := Nat.beq_true hb
      subst hb
      simp only [DM.pure_iff] at h
      obtain ⟨rfl, rfl⟩ := h
      refine ⟨rfl, if ok then .tuple #[y, .bool true] else y, fun w => ?_, ?_⟩
      · simp only [Instr.typeAssert, Sem.run_bind, run_underlying hu, Result.andThen_ok]
        cases d <;> first | exact absurd rfl (hn _) | simp
      · cases ok with
        | true =>
          simp only [if_true, VR, VRs]
          exact ⟨_, rfl, y, [.bool true], by simp, hy, .bool true, [], rfl, rfl, rfl⟩
        | false => simpa using hy
    | false =>
      rw [hb] at h
      have hb := Nat.beq_false hb
      simp only [DM.guard_bind, DM.lift_bind, DM.pure_iff] at h
      obtain ⟨rfl, z, hz, rfl, rfl⟩ := h
      obtain ⟨zv, hzr, hzv⟩ := zero_ok hC hz
      refine ⟨rfl, .tuple #[zv, .bool false], fun w => ?_, ?_⟩
      · simp only [Instr.typeAssert, Sem.run_bind, run_underlying hu, Result.andThen_ok]
        cases d <;> first | exact absurd rfl (hn _) | simp [hzr, hb]
      · simp only [VR, VRs]
        exact ⟨_, rfl, zv, [.bool false], by simp, hzv μ, .bool false, [], rfl, rfl, rfl⟩
  · exact (DM.fail_some h).elim

end Pd
