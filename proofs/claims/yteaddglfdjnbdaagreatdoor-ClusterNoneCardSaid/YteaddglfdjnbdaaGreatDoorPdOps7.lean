/-
  The evaluator's operators and the model's, by types; parts of values; conversions.
-/
import Derived.Test.YteaddglfdjnbdaaGreatDoorPdOps6
import Derived.Laws.BytesString
set_option linter.unusedVariables false
set_option linter.unusedSimpArgs false
namespace Pd
open Go
variable {P : Program} {C : Ctx} {base : World}

/-- What the evaluator is told of types is so. -/
structure TypesOk (P : Program) (C : Ctx) : Prop extends TyOk P C where
  byte : ∀ t u, C.byteTy t = true → C.byteTy u = true → ∀ count off n, off + n ≤ count → liesAt P P.depth t (count / P.cellsOf t) off u n = true
  seen : ∀ e u n, C.seen e u = true → sizeOf? C u = some n → liesAt P P.depth e (n / P.cellsOf e) 0 u 1 = true
  flat : ∀ t ks, C.flat t = some ks → ∃ d, d ≤ 10000 ∧ Flat P d t ks ∧ (∃ fs, P.underlying t = some (.struct fs)) ∧ P.eqGuardType P.depth t = false

theorem isEq_some {op : BinOp} (h : isEq op = true) : op = .eql ∨ op = .neq := by cases op <;> simp_all [isEq]

theorem eqRes_rel {op : BinOp} {b : Bool} (h : op = .eql ∨ op = .neq) (μ : Mu) : VR μ (eqRes op b) (.bool (if op = .eql then b else !b)) := by
  rcases h with rfl | rfl <;> simp [eqRes, VR]

theorem eq_case {op : BinOp} {t : TypeId} {xo yo : Operand} {xv yv : Value} {b ok : Bool} {r : AV} (h : eqOf op ok b = some r) (hb : ok = true → ∀ d w, (Op.equalIn (d + 1) t xv yv).run P w = .ok b w)
    (hg : ok = true → ∀ op, (op = .eql ∨ op = .neq) → ∀ w, (eqGuard op t xo yo xv yv).run P w = .ok () w) (he : ∀ w, (binOp .eql t xv yv).run P w = ((Op.equal t xv yv).run P w).andThen fun b w' => .ok (.bool b) w')
    (hn : ∀ w, (binOp .neq t xv yv).run P w = ((Op.equal t xv yv).run P w).andThen fun b w' => .ok (.bool !b) w') (μ : Mu) :
    ∃ v, (∀ w, (do eqGuard op t xo yo xv yv; binOp op t xv yv : Sem Value).run P w = .ok v w) ∧ VR μ r v := by
  unfold eqOf at h
  split at h
  · rename_i hg2
    simp only [Bool.and_eq_true] at hg2
    cases h
    have hop := isEq_some hg2.1
    refine ⟨_, fun w => ?_, eqRes_rel hop μ⟩
    simp only [Sem.run_bind, hg hg2.2 op hop, Result.andThen_ok]
    rcases hop with rfl | rfl
    · rw [he, Op.equal, show Op.maxDepth = 9999 + 1 from rfl, hb hg2.2]; rfl
    · rw [hn, Op.equal, show Op.maxDepth = 9999 + 1 from rfl, hb hg2.2]; rfl
  · cases h

theorem isIface_some {t : Nat} (h : isIface C t = true) : ∃ m, und C t = some (.interface m) := by
  unfold isIface at h
  split at h
  · rename_i m hm; exact ⟨m, hm⟩
  · cases h

theorem isBoolT_some {t : Nat} (h : isBoolT C t = true) : und C t = some .bool := by
  unfold isBoolT at h
  split at h
  · assumption
  · cases h

theorem isFuncT_some {t : Nat} (h : isFuncT C t = true) : ∃ a b c, und C t = some (.func a b c) := by
  unfold isFuncT at h
  split at h
  · rename_i a b c hm; exact ⟨a, b, c, hm⟩
  · cases h

theorem bin_sim (hC : TypesOk P C) {op : BinOp} {t : Nat} {xo yo : Operand} {x y r : AV} {xv yv : Value} {μ : Mu} (hx : VR μ x xv) (hy : VR μ y yv) (h : binD C op t xo yo x y = some r) :
    ∃ v, (∀ w, (do eqGuard op t xo yo xv yv; binOp op t xv yv : Sem Value).run P w = .ok v w) ∧ VR μ r v := by
  unfold binD at h
  cases x with
  | int k a =>
    cases y with
    | int k' b =>
      simp only [VR] at hx hy
      subst hx hy
      obtain ⟨v, h1, h2⟩ := run_intD (P := P) (t := t) h
      refine ⟨v, fun w => ?_, h2 μ⟩
      have : (eqGuard op t xo yo (.int k a) (.int k' b)).run P w = .ok () w := by cases op <;> simp [eqGuard]
      simp only [Sem.run_bind, this, Result.andThen_ok, h1]
    | _ => cases h
  | str a =>
    cases y with
    | str b =>
      simp only [VR] at hx hy
      subst hx hy
      obtain ⟨v, h1, h2⟩ := run_strBin (P := P) (t := t) h
      refine ⟨v, fun w => ?_, h2 μ⟩
      have : (eqGuard op t xo yo (.string ⟨a.toArray⟩) (.string ⟨b.toArray⟩)).run P w = .ok () w := by cases op <;> simp [eqGuard]
      simp only [Sem.run_bind, this, Result.andThen_ok, h1]
    | _ => cases h
  | agg a =>
    cases y with
    | agg b =>
      simp only [VR] at hx hy
      obtain ⟨xs, rfl, hx⟩ := hx
      obtain ⟨ys, rfl, hy⟩ := hy
      simp only [aggD] at h
      cases hfl : C.flat t with
      | none => rw [hfl] at h; cases h
      | some ks =>
        rw [hfl] at h
        simp only at h
        obtain ⟨d, hd, hF, ⟨fs, hu⟩, hg⟩ := hC.flat t ks hfl
        split at h
        · rename_i hc
          simp only [Bool.and_eq_true] at hc
          obtain ⟨⟨hop, fa⟩, fb⟩ := hc
          have hop := isEq_some hop
          cases he : aeqFlat ks a b with
          | none => rw [he] at h; cases h
          | some q =>
            rw [he] at h
            cases h
            refine ⟨_, fun w => ?_, eqRes_rel hop μ⟩
            have hrun := (equalIn_flat (P := P) d).1 t ks a b _ _ q μ w 10000 hF hx hy fa fb he hd
            simp only [wrapV, hu, Array.toArray_toList] at hrun
            simp only [Sem.run_bind, run_eqGuard_agg w op t xo yo xs ys hg, Result.andThen_ok]
            rcases hop with rfl | rfl
            · rw [run_eql_struct, hrun]; rfl
            · rw [run_neq_struct, hrun]; rfl
        · cases h
    | _ => cases h
  | bool a =>
    cases y with
    | bool b =>
      simp only [VR] at hx hy
      subst hx hy
      refine eq_case h (fun hok d w => by have hu := und_ok hC.toTyOk (isBoolT_some hok); simp [Op.equalIn, run_underlying hu]) (fun _ op ho w => by rcases ho with rfl | rfl <;> simp [eqGuard]) (fun w => by simp [binOp]) (fun w => by simp [binOp]) μ
    | _ => cases h
  | nili =>
    simp only [VR] at hx
    subst hx
    cases y with
    | nili =>
      simp only [VR] at hy
      subst hy
      refine eq_case h (fun hok d w => by
          simp only [Bool.and_eq_true] at hok
          obtain ⟨m, hm⟩ := isIface_some hok.1
          have hu := und_ok hC.toTyOk hm
          simp [Op.equalIn, run_underlying hu]) (fun hok op ho w => by
          simp only [Bool.and_eq_true, Bool.or_eq_true] at hok
          have hcst : (∃ v, xo = .const v) ∨ (∃ v, yo = .const v) := by
            refine hok.2.imp (fun hh => ?_) (fun hh => ?_)
            · cases xo <;> first | exact ⟨_, rfl⟩ | cases hh
            · cases yo <;> first | exact ⟨_, rfl⟩ | cases hh
          rcases hcst with ⟨v, rfl⟩ | ⟨v, rfl⟩ <;> rcases ho with rfl | rfl <;> simp [eqGuard]) (fun w => by simp [binOp]) (fun w => by simp [binOp]) μ
    | iface t' v' =>
      simp only [VR] at hy
      obtain ⟨z, rfl, _⟩ := hy
      refine eq_case h (fun hok d w => by obtain ⟨m, hm⟩ := isIface_some hok; have hu := und_ok hC.toTyOk hm; simp [Op.equalIn, run_underlying hu]) (fun _ op ho w => by rcases ho with rfl | rfl <;> simp [eqGuard]) (fun w => by simp [binOp]) (fun w => by simp [binOp]) μ
    | _ => cases h
  | iface t' v' =>
    simp only [VR] at hx
    obtain ⟨z, rfl, _⟩ := hx
    cases y with
    | nili =>
      simp only [VR] at hy
      subst hy
      refine eq_case h (fun hok d w => by obtain ⟨m, hm⟩ := isIface_some hok; have hu := und_ok hC.toTyOk hm; simp [Op.equalIn, run_underlying hu]) (fun _ op ho w => by rcases ho with rfl | rfl <;> simp [eqGuard]) (fun w => by simp [binOp]) (fun w => by simp [binOp]) μ
    | _ => cases h
  | nilp =>
    simp only [VR] at hx
    subst hx
    cases y with
    | nilp =>
      simp only [VR] at hy
      subst hy
      refine eq_case h (fun hok d w => by obtain ⟨e, he⟩ := Option.isSome_iff_exists.1 hok; have hu := und_ok hC.toTyOk (ptrTy?_some he); simp [Op.equalIn, run_underlying hu]) (fun _ op ho w => by rcases ho with rfl | rfl <;> simp [eqGuard]) (fun w => by simp [binOp]) (fun w => by simp [binOp]) μ
    | ptr j b =>
      simp only [VR] at hy
      obtain ⟨i, _, rfl⟩ := hy
      refine eq_case h (fun hok d w => by obtain ⟨e, he⟩ := Option.isSome_iff_exists.1 hok; have hu := und_ok hC.toTyOk (ptrTy?_some he); simp [Op.equalIn, run_underlying hu]) (fun _ op ho w => by rcases ho with rfl | rfl <;> simp [eqGuard]) (fun w => by simp [binOp]) (fun w => by simp [binOp]) μ
    | _ => cases h
  | ptr i a =>
    simp only [VR] at hx
    obtain ⟨xi, hxi, rfl⟩ := hx
    cases y with
    | nilp =>
      simp only [VR] at hy
      subst hy
      refine eq_case h (fun hok d w => by obtain ⟨e, he⟩ := Option.isSome_iff_exists.1 hok; have hu := und_ok hC.toTyOk (ptrTy?_some he); simp [Op.equalIn, run_underlying hu]) (fun _ op ho w => by rcases ho with rfl | rfl <;> simp [eqGuard]) (fun w => by simp [binOp]) (fun w => by simp [binOp]) μ
    | ptr j b =>
      simp only [VR] at hy
      obtain ⟨yi, hyi, rfl⟩ := hy
      simp only [ptrEq] at h
      cases hp : ptrTy? C t with
      | none => rw [hp] at h; cases h
      | some e =>
        rw [hp] at h
        have hu := und_ok hC.toTyOk (ptrTy?_some hp)
        simp only at h
        cases hs : sizeOf? C e with
        | none => rw [hs] at h; cases h
        | some n =>
          rw [hs] at h
          refine eq_case h (fun hok d w => by
              simp only [Bool.and_eq_true] at hok
              have hn := of_blt hok.1
              have hij := Nat.beq_true hok.2
              subst hij
              rw [hxi] at hyi
              cases hyi
              have hsz := sizeOf_ok (P := P) hC.toTyOk hs w
              have hn0 : n ≠ 0 := by omega
              have hbeq : ((⟨xi.blk, xi.off + a, none⟩ : Addr) == ⟨xi.blk, xi.off + b, none⟩) = Nat.beq a b := by
                cases hab : Nat.beq a b with
                | true => rw [Nat.beq_true hab]; simp
                | false =>
                  have := Nat.beq_false hab
                  simp
                  omega
              simp [Op.equalIn, run_underlying hu, hsz, hn0, sameAddr, hbeq]) (fun _ op ho w => by rcases ho with rfl | rfl <;> simp [eqGuard]) (fun w => by simp [binOp]) (fun w => by simp [binOp]) μ
    | _ => cases h
  | nils =>
    simp only [VR] at hx
    subst hx
    cases y with
    | nils =>
      simp only [VR] at hy
      subst hy
      refine eq_case h (fun hok d w => by obtain ⟨e, he⟩ := Option.isSome_iff_exists.1 hok; have hu := und_ok hC.toTyOk (elem?_some he); simp [Op.equalIn, run_underlying hu]) (fun _ op ho w => by rcases ho with rfl | rfl <;> simp [eqGuard]) (fun w => by simp [binOp]) (fun w => by simp [binOp]) μ
    | slice id off len c =>
      simp only [VR] at hy
      obtain ⟨i, ad, _, rfl, _⟩ := hy
      refine eq_case h (fun hok d w => by obtain ⟨e, he⟩ := Option.isSome_iff_exists.1 hok; have hu := und_ok hC.toTyOk (elem?_some he); simp [Op.equalIn, run_underlying hu]) (fun _ op ho w => by rcases ho with rfl | rfl <;> simp [eqGuard]) (fun w => by simp [binOp]) (fun w => by simp [binOp]) μ
    | _ => cases h
  | slice id off len c =>
    simp only [VR] at hx
    obtain ⟨i, ad, _, rfl, _⟩ := hx
    cases y with
    | nils =>
      simp only [VR] at hy
      subst hy
      refine eq_case h (fun hok d w => by obtain ⟨e, he⟩ := Option.isSome_iff_exists.1 hok; have hu := und_ok hC.toTyOk (elem?_some he); simp [Op.equalIn, run_underlying hu]) (fun _ op ho w => by rcases ho with rfl | rfl <;> simp [eqGuard]) (fun w => by simp [binOp]) (fun w => by simp [binOp]) μ
    | _ => cases h
  | map o =>
    cases o with
    | none =>
      simp only [VR] at hx
      subst hx
      cases y with
      | map b =>
        cases b with
        | none =>
          simp only [VR] at hy
          subst hy
          refine eq_case h (fun hok d w => by obtain ⟨e, he⟩ := Option.isSome_iff_exists.1 hok; have hu := und_ok hC.toTyOk (mapTy?_some he); simp [Op.equalIn, run_underlying hu]) (fun _ op ho w => by rcases ho with rfl | rfl <;> simp [eqGuard]) (fun w => by simp [binOp]) (fun w => by simp [binOp]) μ
        | some b =>
          simp only [VR] at hy
          obtain ⟨i, _, rfl⟩ := hy
          refine eq_case h (fun hok d w => by obtain ⟨e, he⟩ := Option.isSome_iff_exists.1 hok; have hu := und_ok hC.toTyOk (mapTy?_some he); simp [Op.equalIn, run_underlying hu]) (fun _ op ho w => by rcases ho with rfl | rfl <;> simp [eqGuard]) (fun w => by simp [binOp]) (fun w => by simp [binOp]) μ
      | _ => cases h
    | some o =>
      simp only [VR] at hx
      obtain ⟨i, _, rfl⟩ := hx
      cases y with
      | map b =>
        cases b with
        | none =>
          simp only [VR] at hy
          subst hy
          refine eq_case h (fun hok d w => by obtain ⟨e, he⟩ := Option.isSome_iff_exists.1 hok; have hu := und_ok hC.toTyOk (mapTy?_some he); simp [Op.equalIn, run_underlying hu]) (fun _ op ho w => by rcases ho with rfl | rfl <;> simp [eqGuard]) (fun w => by simp [binOp]) (fun w => by simp [binOp]) μ
        | some b => cases h
      | _ => cases h
  | nilf =>
    simp only [VR] at hx
    subst hx
    cases y with
    | nilf =>
      simp only [VR] at hy
      subst hy
      refine eq_case h (fun hok d w => by obtain ⟨a, b, c, hm⟩ := isFuncT_some hok; have hu := und_ok hC.toTyOk hm; simp [Op.equalIn, run_underlying hu]) (fun _ op ho w => by rcases ho with rfl | rfl <;> simp [eqGuard]) (fun w => by simp [binOp]) (fun w => by simp [binOp]) μ
    | func f a b =>
      simp only [VR] at hy
      obtain ⟨p, q, rfl, _⟩ := hy
      refine eq_case h (fun hok d w => by obtain ⟨a, b, c, hm⟩ := isFuncT_some hok; have hu := und_ok hC.toTyOk hm; simp [Op.equalIn, run_underlying hu]) (fun _ op ho w => by rcases ho with rfl | rfl <;> simp [eqGuard]) (fun w => by simp [binOp]) (fun w => by simp [binOp]) μ
    | yield l =>
      simp only [VR] at hy
      obtain ⟨i, _, rfl⟩ := hy
      refine eq_case h (fun hok d w => by obtain ⟨a, b, c, hm⟩ := isFuncT_some hok; have hu := und_ok hC.toTyOk hm; simp [Op.equalIn, run_underlying hu]) (fun _ op ho w => by rcases ho with rfl | rfl <;> simp [eqGuard]) (fun w => by simp [binOp]) (fun w => by simp [binOp]) μ
    | _ => cases h
  | func f a b =>
    simp only [VR] at hx
    obtain ⟨p, q, rfl, _⟩ := hx
    cases y with
    | nilf =>
      simp only [VR] at hy
      subst hy
      refine eq_case h (fun hok d w => by obtain ⟨a, b, c, hm⟩ := isFuncT_some hok; have hu := und_ok hC.toTyOk hm; simp [Op.equalIn, run_underlying hu]) (fun _ op ho w => by rcases ho with rfl | rfl <;> simp [eqGuard]) (fun w => by simp [binOp]) (fun w => by simp [binOp]) μ
    | _ => cases h
  | yield l =>
    simp only [VR] at hx
    obtain ⟨i, _, rfl⟩ := hx
    cases y with
    | nilf =>
      simp only [VR] at hy
      subst hy
      refine eq_case h (fun hok d w => by obtain ⟨a, b, c, hm⟩ := isFuncT_some hok; have hu := und_ok hC.toTyOk hm; simp [Op.equalIn, run_underlying hu]) (fun _ op ho w => by rcases ho with rfl | rfl <;> simp [eqGuard]) (fun w => by simp [binOp]) (fun w => by simp [binOp]) μ
    | _ => cases h
  | tuple vs => cases h

end Pd
