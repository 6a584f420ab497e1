/-
  The evaluator sees only what is not hidden: with more to be seen it does the same.
-/
import Derived.Test.YteaddglfdjnbdaaGreatDoorPdTr
namespace Pd
open Go

structure Le (s k : St) : Prop where
  ctr : k.ctr = s.ctr
  base : k.base = s.base
  rc : k.rc = s.rc
  bc : s.base ≤ s.ctr
  inv : InvLe s.inv k.inv
  at_ : ∀ l, vis s.inv l = true → ∀ v, lv s.heap.get l = some v → lv k.heap.get l = some v
  own : ∀ id, s.base ≤ id → id < s.ctr → k.heap.get id = s.heap.get id

structure Post (s s' k k' : St) : Prop where
  le : Le s' k'
  inv : s'.inv = s.inv
  inv' : k'.inv = k.inv
  base : s'.base = s.base
  ctr : s.ctr ≤ s'.ctr
  log : ∃ l, s'.log = l ++ s.log ∧ k'.log = l ++ k.log ∧ (∀ e ∈ l, e.id < s.base) ∧ (∀ p, tch l p = true → vis s.inv p = true) ∧
    ∀ p : Loc, (p.id < s.base ∨ s'.ctr ≤ p.id) →
      (tch l p = true → lv s'.heap.get p = lv k'.heap.get p) ∧
      (tch l p = false → lv s'.heap.get p = lv s.heap.get p ∧ lv k'.heap.get p = lv k.heap.get p)

theorem Post.refl {s k : St} (h : Le s k) : Post s s k k :=
  ⟨h, rfl, rfl, rfl, Nat.le_refl _, [], rfl, rfl, by simp, by simp [tch], fun p _ => ⟨by simp [tch], fun _ => ⟨rfl, rfl⟩⟩⟩

theorem Post.trans {s s1 s2 k k1 k2 : St} (h : Post s s1 k k1) (h' : Post s1 s2 k1 k2) : Post s s2 k k2 := by
  obtain ⟨l1, a1, b1, c1, d1, e1⟩ := h.log
  obtain ⟨l2, a2, b2, c2, d2, e2⟩ := h'.log
  refine ⟨h'.le, h'.inv.trans h.inv, h'.inv'.trans h.inv', h'.base.trans h.base, Nat.le_trans h.ctr h'.ctr, l2 ++ l1, ?_, ?_, ?_, ?_, ?_⟩
  · rw [a2, a1, List.append_assoc]
  · rw [b2, b1, List.append_assoc]
  · intro e he
    rcases List.mem_append.1 he with he | he
    · exact h.base ▸ c2 e he
    · exact c1 e he
  · intro p hp
    rw [tch_append, Bool.or_eq_true] at hp
    rcases hp with hp | hp
    · exact h.inv ▸ d2 p hp
    · exact d1 p hp
  · intro p hp
    have hp1 : p.id < s.base ∨ s1.ctr ≤ p.id := hp.imp id fun x => Nat.le_trans h'.ctr x
    have hp2 : p.id < s1.base ∨ s2.ctr ≤ p.id := hp.imp (fun x => h.base ▸ x) id
    obtain ⟨f1, g1⟩ := e1 p hp1
    obtain ⟨f2, g2⟩ := e2 p hp2
    rw [tch_append]
    cases t2 : tch l2 p with
    | true => exact ⟨fun _ => f2 t2, fun hh => by simp at hh⟩
    | false =>
      obtain ⟨u2, v2⟩ := g2 t2
      cases t1 : tch l1 p with
      | true => exact ⟨fun _ => by rw [u2, v2]; exact f1 t1, fun hh => by simp at hh⟩
      | false =>
        obtain ⟨u1, v1⟩ := g1 t1
        exact ⟨fun hh => by simp at hh, fun _ => ⟨u2.trans u1, v2.trans v1⟩⟩

def Mono {α : Type} (m : DM α) : Prop :=
  ∀ s k, Le s k → ∀ a s', m s = some (a, s') → ∃ k', m k = some (a, k') ∧ Post s s' k k'

section
variable {α β : Type}

theorem Mono.bind {m : DM α} {f : α → DM β} (hm : Mono m) (hf : ∀ a, Mono (f a)) : Mono (m >>= f) := by
  intro s k h b s2 hs
  obtain ⟨a, s1, h1, h2⟩ := DM.bind_some hs
  obtain ⟨k1, e1, p1⟩ := hm s k h a s1 h1
  obtain ⟨k2, e2, p2⟩ := hf a s1 k1 p1.le b s2 h2
  exact ⟨k2, by rw [DM.bind_def, e1]; exact e2, p1.trans p2⟩

theorem Mono.pure (a : α) : Mono (DM.pure a) := by
  intro s k h b s' hs
  obtain ⟨rfl, rfl⟩ := DM.pure_some hs
  exact ⟨k, rfl, Post.refl h⟩

theorem Mono.fail : Mono (DM.fail : DM α) := fun _ _ _ _ _ h => (DM.fail_some h).elim

theorem Mono.lift (o : Option α) : Mono (DM.lift o) := by
  intro s k h b s' hs
  obtain ⟨rfl, rfl⟩ := DM.lift_some hs
  exact ⟨k, rfl, Post.refl h⟩

theorem Mono.guard (b : Bool) : Mono (DM.guard b) := by
  intro s k h u s' hs
  obtain ⟨rfl, rfl⟩ := DM.guard_some hs
  exact ⟨k, rfl, Post.refl h⟩

theorem Le.mt {s k : St} (h : Le s k) {id : Nat} {m : Mt} (hm : s.mt id = some m) : k.mt id = some m := by
  unfold St.mt at hm ⊢
  cases hh : hid s.inv id with
  | true => rw [hh] at hm; cases hm
  | false =>
    rw [hh] at hm
    rw [h.inv.mt id hh]
    simp only at hm ⊢
    have hv : vis s.inv ⟨id, none⟩ = true := by simp [vis, hh]
    cases ho : s.heap.get id with
    | none => rw [ho] at hm; cases hm
    | some o =>
      rw [ho] at hm
      simp only [Option.some.injEq] at hm
      have := h.at_ ⟨id, none⟩ hv (.mt o.mt) (by simp [lv, lvO, ho])
      simp only [lv, lvO] at this
      cases hk : k.heap.get id with
      | none => rw [hk] at this; cases this
      | some o' =>
        rw [hk] at this
        simp only [Option.map_some, Option.some.injEq, LV.mt.injEq] at this
        simp [this, hm]

theorem Le.chained {s k : St} (h : Le s k) {m : Mode} (hm : chained s m = true) : chained k m = true := by
  unfold Pd.chained at hm ⊢
  cases m with
  | ro c =>
    simp only at hm ⊢
    cases hc : s.mt c with
    | none => rw [hc] at hm; cases hm
    | some x => rw [h.mt hc]; rw [hc] at hm; exact hm
  | _ => rfl

/-- What only looks. -/
theorem Mono.looks {m : DM α} (h : ∀ s k, Le s k → ∀ a s', m s = some (a, s') → s' = s ∧ m k = some (a, k)) : Mono m := by
  intro s k hl a s' hs
  obtain ⟨rfl, hk⟩ := h s k hl a s' hs
  exact ⟨k, hk, Post.refl hl⟩

theorem Mono.mtD (id : Nat) : Mono (Pd.mtD id) := Mono.looks fun s k h a s' hs => by
  unfold Pd.mtD at hs ⊢
  cases hm : s.mt id with
  | none => rw [hm] at hs; cases hs
  | some m => rw [hm] at hs; cases hs; rw [h.mt hm]; exact ⟨rfl, rfl⟩

theorem rowD_some {s s' : St} {id : Nat} {r : Nat × TypeId × (Nat × Nat) × Mode} (h : rowD id s = some (r, s')) : s' = s ∧ s.mt id = some (.cells r.1 r.2.1 r.2.2.1 r.2.2.2) ∧ chained s r.2.2.2 = true := by
  unfold rowD at h
  split at h
  · rename_i n e fz m hm
    split at h
    · rename_i hc; cases h; exact ⟨rfl, hm, hc⟩
    · cases h
  · cases h

theorem Mono.rowD (id : Nat) : Mono (Pd.rowD id) := Mono.looks fun s k h a s' hs => by
  obtain ⟨rfl, hm, hc⟩ := rowD_some hs
  refine ⟨rfl, ?_⟩
  unfold Pd.rowD
  rw [h.mt hm, ]
  simp only [h.chained hc]

theorem objD_some {s s' : St} {id : Nat} {o : AObj} (h : objD id s = some (o, s')) : s' = s ∧ s.mt id = some (.obj o) := by
  unfold objD at h
  split at h
  · rename_i o' hm; cases h; exact ⟨rfl, hm⟩
  · cases h

theorem Mono.objD (id : Nat) : Mono (Pd.objD id) := Mono.looks fun s k h a s' hs => by
  obtain ⟨rfl, hm⟩ := objD_some hs
  refine ⟨rfl, ?_⟩
  unfold Pd.objD
  rw [h.mt hm]

theorem St.mt_some {s : St} {id : Nat} {m : Mt} (h : s.mt id = some m) : hid s.inv id = false ∧ ∃ o, s.heap.get id = some o ∧ o.mt = m := by
  unfold St.mt at h
  cases hh : hid s.inv id with
  | true => rw [hh] at h; cases h
  | false =>
    rw [hh] at h
    cases ho : s.heap.get id with
    | none => rw [ho] at h; cases h
    | some o => rw [ho] at h; simp only [Option.some.injEq] at h; exact ⟨rfl, o, rfl, h⟩

theorem AObj.mt_cells {o : AObj} {n : Nat} {e : TypeId} {fz : Nat × Nat} {m : Mode} (h : o.mt = .cells n e fz m) : ∃ cs, o = .cells cs e fz m ∧ cs.length = n := by
  cases o <;> simp_all [AObj.mt]

theorem AObj.mt_obj {o o' : AObj} (h : o.mt = .obj o') : o = o' ∧ isRow (some o) = false := by
  cases o <;> simp_all [AObj.mt, isRow]

theorem rdN_some {s s' : St} {id off n : Nat} {vs : List AV} (h : rdN id off n s = some (vs, s')) :
    s' = s ∧ ∃ cs e fz m, s.heap.get id = some (.cells cs e fz m) ∧ hid s.inv id = false ∧ chained s m = true ∧ off + n ≤ cs.length ∧ hidSome s.inv id off (off + n) = false ∧ vs = (cs.drop off).take n := by
  unfold rdN at h
  split at h
  · rename_i len e fz m hm
    split at h
    · rename_i hg
      simp only [Bool.and_eq_true, Nat.ble_eq, Bool.not_eq_true'] at hg
      obtain ⟨hh, o, ho, hmt⟩ := St.mt_some hm
      obtain ⟨cs, rfl, hl⟩ := AObj.mt_cells hmt
      rw [ho] at h
      simp only [Option.some.injEq, Prod.mk.injEq] at h
      exact ⟨h.2.symm, cs, e, fz, m, ho, hh, hg.1.1, by omega, hg.2, h.1.symm⟩
    · cases h
  · cases h

theorem rdN_of {s : St} {id off n : Nat} {cs : List AV} {e : TypeId} {fz : Nat × Nat} {m : Mode} (h : s.heap.get id = some (.cells cs e fz m)) (hh : hid s.inv id = false) (hc : chained s m = true)
    (hl : off + n ≤ cs.length) (hs : hidSome s.inv id off (off + n) = false) : rdN id off n s = some ((cs.drop off).take n, s) := by
  have hm : s.mt id = some (.cells cs.length e fz m) := by simp [St.mt, hh, h, AObj.mt]
  unfold rdN
  rw [hm]
  simp only [hc, hs, h, Bool.true_and, Bool.not_false, Bool.and_true]
  rw [ble_of hl]

theorem Mono.rdN (id off n : Nat) : Mono (Pd.rdN id off n) := Mono.looks fun s k h a s' hs => by
  obtain ⟨rfl, cs, e, fz, m, hg, hh, hc, hl, hv, rfl⟩ := rdN_some hs
  refine ⟨rfl, ?_⟩
  have hm : s'.mt id = some (.cells cs.length e fz m) := by simp [St.mt, hh, hg, AObj.mt]
  obtain ⟨hh', o, ho, hmt⟩ := St.mt_some (h.mt hm)
  obtain ⟨cs', rfl, hl'⟩ := AObj.mt_cells hmt
  rw [rdN_of ho hh' (h.chained hc) (by omega) (h.inv.cell _ _ _ hv)]
  have : (cs'.drop off).take n = (cs.drop off).take n := by
    apply List.ext_getElem?
    intro i
    rw [List.getElem?_take, List.getElem?_take]
    split
    · rename_i hi
      rw [List.getElem?_drop, List.getElem?_drop]
      have hlt : off + i < cs.length := by omega
      have := h.at_ ⟨id, some (off + i)⟩ (by simp only [vis, Bool.not_eq_true']; exact hidSome_each hv (by omega) (by omega)) (.cell cs[off + i]) (by simp [lv, lvO, hg, hlt])
      simp only [lv, lvO, ho] at this
      cases hc' : cs'[off + i]? with
      | none => rw [hc'] at this; cases this
      | some x =>
        rw [hc'] at this
        simp only [Option.map_some, Option.some.injEq, LV.cell.injEq] at this
        rw [this, List.getElem?_eq_getElem hlt]
    · rfl
  rw [this]

theorem logIf_eq {s k : St} (h : Le s k) (e : Lg) : ∃ l, logIf s e = l ++ s.log ∧ logIf k e = l ++ k.log ∧ (∀ x ∈ l, x = e ∧ x.id < s.base) ∧ (e.id < s.base → l = [e]) := by
  unfold logIf
  rw [h.base]
  cases hb : Nat.blt e.id s.base with
  | true =>
    have hlt : e.id < s.base := of_blt hb
    exact ⟨[e], rfl, rfl, by simp [hlt], fun _ => rfl⟩
  | false =>
    refine ⟨[], rfl, rfl, by simp, fun hh => ?_⟩
    rw [blt_of hh] at hb; cases hb

/-- One place's block is turned, in the same way, in both. -/
theorem Post.upd {s k : St} (h : Le s k) {id : Nat} (hid' : id < s.ctr) (e : Lg) (he : e.id = id) {o ok o' ok' : Option AObj} (hs : s.heap.get id = o) (hk : k.heap.get id = ok)
    (hvis : ∀ c, e.at ⟨id, c⟩ = true → vis s.inv ⟨id, c⟩ = true)
    (hin : ∀ c, e.at ⟨id, c⟩ = true → lvO o' c = lvO ok' c)
    (hout : ∀ c, e.at ⟨id, c⟩ = false → lvO o' c = lvO o c ∧ lvO ok' c = lvO ok c) (hown : s.base ≤ id → ok' = o') :
    Post s { s with heap := s.heap.set id o', log := logIf s e } k { k with heap := k.heap.set id ok', log := logIf k e } := by
  obtain ⟨l, a, b, c, d⟩ := logIf_eq h e
  refine ⟨⟨h.ctr, h.base, h.rc, h.bc, h.inv, ?_, ?_⟩, rfl, rfl, rfl, Nat.le_refl _, l, a, b, fun x hx => (c x hx).2, ?_, ?_⟩
  · rintro ⟨i, cc⟩ hv v hl
    simp only [lv, Tr.get_set] at hl ⊢
    by_cases hi : i = id
    · subst hi
      rw [if_pos rfl] at hl ⊢
      cases ht : e.at ⟨i, cc⟩ with
      | true => rw [← hin cc ht]; exact hl
      | false =>
        obtain ⟨x, y⟩ := hout cc ht
        rw [y, ← hk]
        rw [x, ← hs] at hl
        exact h.at_ ⟨i, cc⟩ hv v hl
    · rw [if_neg hi] at hl ⊢
      exact h.at_ ⟨i, cc⟩ hv v hl
  · intro i h1 h2
    simp only [Tr.get_set]
    by_cases hi : i = id
    · subst hi; rw [if_pos rfl, if_pos rfl]; exact hown h1
    · rw [if_neg hi, if_neg hi]; exact h.own i h1 h2
  · rintro ⟨i, cc⟩ hp
    simp only [tch, List.any_eq_true] at hp
    obtain ⟨x, hx, hxa⟩ := hp
    obtain ⟨rfl, _⟩ := c x hx
    have : i = id := by
      simp only [Lg.at, Bool.and_eq_true, beq_iff_eq] at hxa
      rw [← he]; exact hxa.1.symm
    subst this
    exact hvis cc hxa
  · rintro ⟨i, cc⟩ hp
    simp only at hp
    simp only [lv, Tr.get_set]
    by_cases hi : i = id
    · subst hi
      rw [if_pos rfl, if_pos rfl]
      have hlt : i < s.base := by
        rcases hp with hp | hp
        · exact hp
        · omega
      have hl : l = [e] := d (he ▸ hlt)
      subst hl
      simp only [tch, List.any_cons, List.any_nil, Bool.or_false]
      refine ⟨fun ht => hin cc ht, fun ht => ?_⟩
      obtain ⟨x, y⟩ := hout cc ht
      rw [x, y, hs, hk]
      exact ⟨rfl, rfl⟩
    · rw [if_neg hi, if_neg hi]
      refine ⟨fun ht => ?_, fun _ => ⟨rfl, rfl⟩⟩
      simp only [tch, List.any_eq_true] at ht
      obtain ⟨x, hx, hxa⟩ := ht
      obtain ⟨rfl, _⟩ := c x hx
      simp only [Lg.at, Bool.and_eq_true, beq_iff_eq] at hxa
      exact absurd (hxa.1.symm.trans he) hi

theorem putObj_some {s s' : St} {id : Nat} {o : Option AObj} {u : Unit} (h : putObj id o s = some (u, s')) :
    ∃ x, s.mt id = some (.obj x) ∧ id < s.ctr ∧ isRow o = false ∧ s' = { s with heap := s.heap.set id o, log := logIf s ⟨id, none⟩ } := by
  unfold putObj at h
  simp only [St.turn_eq] at h
  split at h
  · rename_i x hx
    split at h
    · rename_i hg
      simp only [Bool.and_eq_true, Bool.not_eq_true', Nat.blt_eq] at hg
      simp only [Option.some.injEq, Prod.mk.injEq] at h
      exact ⟨x, hx, hg.1, hg.2, h.2.symm⟩
    · cases h
  · cases h

theorem lvO_row {o : Option AObj} (h : isRow o = false) (c : Nat) : lvO o (some c) = none := by
  cases o with
  | none => rfl
  | some o => cases o <;> simp_all [isRow, lvO]

theorem Mono.putObj (id : Nat) (o : Option AObj) : Mono (Pd.putObj id o) := by
  intro s k h u s' hs
  obtain ⟨x, hx, hlt, hr, rfl⟩ := putObj_some hs
  have hxk := h.mt hx
  obtain ⟨hh, y, hy, hymt⟩ := St.mt_some hx
  obtain ⟨hhk, z, hz, hzmt⟩ := St.mt_some hxk
  obtain ⟨rfl, hrow⟩ := AObj.mt_obj hymt
  obtain ⟨rfl, hrowz⟩ := AObj.mt_obj hzmt
  refine ⟨{ k with heap := k.heap.set id o, log := logIf k ⟨id, none⟩ }, ?_, ?_⟩
  · unfold Pd.putObj
    simp only [St.turn_eq]
    rw [hxk]
    have : (Nat.blt id k.ctr && !(isRow o)) = true := by
      rw [hr, h.ctr]; simp [Nat.blt_eq, hlt]
    simp only [this]
  · refine Post.upd h hlt ⟨id, none⟩ rfl hy hz ?_ (fun _ _ => rfl) ?_ (fun _ => rfl)
    · intro c hc
      cases c with
      | none => simp [vis, hh]
      | some c => simp [Lg.at] at hc
    · intro c hc
      cases c with
      | none => simp [Lg.at] at hc
      | some c => simp [lvO_row hr, lvO_row hrow]

theorem Mono.new (o : AObj) : Mono (Pd.new o) := by
  intro s k h a s' hs
  have hs' : s.ctr = a ∧ { s with heap := s.heap.set s.ctr (some o), ctr := s.ctr + 1 } = s' := by simpa [Pd.new, St.born_eq] using hs
  obtain ⟨rfl, rfl⟩ := hs'
  refine ⟨{ k with heap := k.heap.set k.ctr (some o), ctr := k.ctr + 1 }, by simp [Pd.new, St.born_eq, h.ctr], ?_⟩
  have hk := h.ctr
  rw [h.ctr]
  refine ⟨⟨rfl, h.base, h.rc, by have := h.bc; simp only; omega, h.inv, ?_, ?_⟩, rfl, rfl, rfl, by simp, [], rfl, rfl, by simp, by simp [tch], ?_⟩
  · rintro ⟨i, c⟩ hv v hl
    simp only [lv, Tr.get_set] at hl ⊢
    by_cases hi : i = s.ctr
    · rw [if_pos hi] at hl ⊢; exact hl
    · rw [if_neg hi] at hl ⊢; exact h.at_ ⟨i, c⟩ hv v hl
  · intro i h1 h2
    simp only [Tr.get_set]
    by_cases hi : i = s.ctr
    · rw [if_pos hi, if_pos hi]
    · rw [if_neg hi, if_neg hi]
      have h2' : i < s.ctr + 1 := h2
      exact h.own i h1 (by omega)
  · rintro ⟨i, c⟩ hp
    have hi : i ≠ s.ctr := by
      have := h.bc
      rcases hp with hp | hp
      · simp only at hp; omega
      · simp only at hp; omega
    refine ⟨fun hh => by simp [tch] at hh, fun _ => ?_⟩
    simp [lv, Tr.get_set, if_neg hi]

theorem splice_length {γ : Type} (cs : List γ) (off : Nat) (vs : List γ) (h : off + vs.length ≤ cs.length) : (splice cs off vs).length = cs.length := by
  simp only [splice, List.length_append, List.length_take, List.length_drop]; omega

theorem splice_get {γ : Type} (cs : List γ) (off : Nat) (vs : List γ) (h : off + vs.length ≤ cs.length) (c : Nat) :
    (splice cs off vs)[c]? = if off ≤ c ∧ c < off + vs.length then vs[c - off]? else cs[c]? := by
  unfold splice
  have hl : (cs.take off).length = off := by simp; omega
  by_cases h1 : c < off
  · rw [if_neg (by omega), List.getElem?_append_left (by omega), List.getElem?_take, if_pos h1]
  · rw [List.getElem?_append_right (by omega), hl]
    by_cases h2 : c < off + vs.length
    · rw [if_pos (by omega), List.getElem?_append_left (by omega)]
    · rw [if_neg (by omega), List.getElem?_append_right (by omega), List.getElem?_drop]
      congr 1; omega

theorem setCells_some {s s' : St} {id off : Nat} {vs : List AV} {u : Unit} (h : setCells id off vs s = some (u, s')) :
    ∃ cs e fz m, s.heap.get id = some (.cells cs e fz m) ∧ hid s.inv id = false ∧ id < s.ctr ∧ off + vs.length ≤ cs.length ∧ hidSome s.inv id off (off + vs.length) = false ∧
      s' = { s with heap := s.heap.set id (some (.cells (splice cs off vs) e fz m)), log := logIf s ⟨id, some (off, off + vs.length)⟩ } := by
  unfold setCells at h
  simp only [St.turn_eq] at h
  split at h
  · cases h
  · rename_i hh
    split at h
    · rename_i cs e fz m hg
      split at h
      · rename_i hb
        simp only [Bool.and_eq_true, Bool.not_eq_true', Nat.blt_eq, Nat.ble_eq] at hb
        simp only [Option.some.injEq, Prod.mk.injEq] at h
        exact ⟨cs, e, fz, m, hg, hh, hb.1.1, hb.1.2, hb.2, h.2.symm⟩
      · cases h
    · cases h

theorem Mono.setCells (id off : Nat) (vs : List AV) : Mono (Pd.setCells id off vs) := by
  intro s k h u s' hs
  obtain ⟨cs, e, fz, m, hg, hh, hlt, hle, hv, rfl⟩ := setCells_some hs
  have hm : s.mt id = some (.cells cs.length e fz m) := by simp [St.mt, hh, hg, AObj.mt]
  obtain ⟨hh', o, ho, hmt⟩ := St.mt_some (h.mt hm)
  obtain ⟨cs', rfl, hl'⟩ := AObj.mt_cells hmt
  refine ⟨{ k with heap := k.heap.set id (some (.cells (splice cs' off vs) e fz m)), log := logIf k ⟨id, some (off, off + vs.length)⟩ }, ?_, ?_⟩
  · unfold Pd.setCells
    simp only [St.turn_eq]
    rw [hh']
    simp only [ho, h.ctr, h.inv.cell _ _ _ hv, hl']
    have : (Nat.blt id s.ctr && Nat.ble (off + vs.length) cs.length && !false) = true := by simp [Nat.blt_eq, hlt, hle]
    simp only [this]
  · have hle' : off + vs.length ≤ cs'.length := by omega
    refine Post.upd h hlt ⟨id, some (off, off + vs.length)⟩ rfl hg ho ?_ ?_ ?_ ?_
    · intro c hc
      cases c with
      | none => simp [Lg.at] at hc
      | some c =>
        simp only [Lg.at, beq_self_eq_true, Bool.true_and, Bool.and_eq_true, Nat.ble_eq, Nat.blt_eq] at hc
        simp only [vis, Bool.not_eq_true']
        exact hidSome_each hv hc.1 hc.2
    · intro c hc
      cases c with
      | none => simp [Lg.at] at hc
      | some c =>
        simp only [Lg.at, beq_self_eq_true, Bool.true_and, Bool.and_eq_true, Nat.ble_eq, Nat.blt_eq] at hc
        simp only [lvO, splice_get _ _ _ hle, splice_get _ _ _ hle', if_pos hc]
    · intro c hc
      cases c with
      | none => simp [lvO, AObj.mt, splice_length _ _ _ hle, splice_length _ _ _ hle']
      | some c =>
        have hn : ¬(off ≤ c ∧ c < off + vs.length) := by
          intro hi
          have : Lg.at ⟨id, some (off, off + vs.length)⟩ ⟨id, some c⟩ = true := by simp [Lg.at, hi.1, hi.2]
          rw [this] at hc; cases hc
        simp [lvO, splice_get _ _ _ hle, splice_get _ _ _ hle', if_neg hn]
    · intro hb
      have := h.own id hb hlt
      rw [hg, ho] at this
      simp only [Option.some.injEq, AObj.cells.injEq, and_true] at this
      rw [this]

theorem setMode_some {s s' : St} {id : Nat} {fz' : Nat × Nat} {m' : Mode} {u : Unit} (h : setMode id fz' m' s = some (u, s')) :
    ∃ cs e fz m, s.heap.get id = some (.cells cs e fz m) ∧ hid s.inv id = false ∧ id < s.ctr ∧
      s' = { s with heap := s.heap.set id (some (.cells cs e fz' m')), log := logIf s ⟨id, none⟩ } := by
  unfold setMode at h
  simp only [St.turn_eq] at h
  split at h
  · cases h
  · rename_i hh
    split at h
    · rename_i cs e fz m hg
      split at h
      · rename_i hb
        simp only [Nat.blt_eq] at hb
        simp only [Option.some.injEq, Prod.mk.injEq] at h
        exact ⟨cs, e, fz, m, hg, hh, hb, h.2.symm⟩
      · cases h
    · cases h

theorem Mono.setMode (id : Nat) (fz' : Nat × Nat) (m' : Mode) : Mono (Pd.setMode id fz' m') := by
  intro s k h u s' hs
  obtain ⟨cs, e, fz, m, hg, hh, hlt, rfl⟩ := setMode_some hs
  have hm : s.mt id = some (.cells cs.length e fz m) := by simp [St.mt, hh, hg, AObj.mt]
  obtain ⟨hh', o, ho, hmt⟩ := St.mt_some (h.mt hm)
  obtain ⟨cs', rfl, hl'⟩ := AObj.mt_cells hmt
  refine ⟨{ k with heap := k.heap.set id (some (.cells cs' e fz' m')), log := logIf k ⟨id, none⟩ }, ?_, ?_⟩
  · unfold Pd.setMode
    simp only [St.turn_eq]
    rw [hh']
    simp only [ho, h.ctr]
    have : Nat.blt id s.ctr = true := by simp [Nat.blt_eq, hlt]
    simp only [this]
  · refine Post.upd h hlt ⟨id, none⟩ rfl hg ho ?_ ?_ ?_ ?_
    · intro c hc
      cases c with
      | none => simp [vis, hh]
      | some c => simp [Lg.at] at hc
    · intro c hc
      cases c with
      | none => simp [lvO, AObj.mt, hl']
      | some c => simp [Lg.at] at hc
    · intro c hc
      cases c with
      | none => simp [Lg.at] at hc
      | some c => exact ⟨rfl, rfl⟩
    · intro hb
      have := h.own id hb hlt
      rw [hg, ho] at this
      simp only [Option.some.injEq, AObj.cells.injEq, and_true] at this
      rw [this]
end
end Pd
