/-
  The evaluator's operations and the model's: types, constants, rows of cells, building.
-/
import Derived.Test.YteaddglfdjnbdaaGreatDoorPdRep
import Derived.Laws.Entries
import Derived.Laws.StructEq
set_option linter.unusedVariables false
set_option linter.unusedSimpArgs false
namespace Pd
open Go

/-- What the evaluator is told of the program is so: types. -/
structure TyOk (P : Program) (C : Ctx) : Prop where
  ty : ∀ t i, C.ty t = some i → P.info? t = some i

variable {P : Program} {C : Ctx} {base : World}

theorem und_ok (hC : TyOk P C) {t : Nat} {d : TypeDesc} (h : und C t = some d) : P.underlying t = some d := by
  unfold und at h
  unfold Program.underlying
  cases ht : C.ty t with
  | none => rw [ht] at h; cases h
  | some i =>
    rw [ht] at h
    rw [hC.ty t i ht]
    obtain ⟨desc, str, size, bytes, hp, al, fa, z, cm, ms⟩ := i
    cases desc <;> simp only at h ⊢ <;> try exact h
    rename_i name u
    cases hu : C.ty u with
    | none => rw [hu] at h; cases h
    | some j => rw [hu] at h; rw [hC.ty u j hu]; exact h

theorem run_typeInfo {t : Nat} {i : TypeInfo} (h : P.info? t = some i) (w : World) : (typeInfo t).run P w = .ok i w := by simp [typeInfo, h]

theorem sizeOf_ok (hC : TyOk P C) {t n : Nat} (h : sizeOf? C t = some n) (w : World) : (Go.sizeOf t).run P w = .ok n w := by
  unfold sizeOf? at h
  cases ht : C.ty t with
  | none => rw [ht] at h; cases h
  | some i => rw [ht] at h; simp at h; subst h; simp [Go.sizeOf, run_typeInfo (hC.ty t i ht)]

theorem isAgg_ok (hC : TyOk P C) {t : Nat} {b : Bool} (h : isAgg? C t = some b) (w : World) : (isAgg t).run P w = .ok b w := by
  unfold isAgg? at h
  cases hu : und C t with
  | none => rw [hu] at h; cases h
  | some d =>
    rw [hu] at h
    have := und_ok hC hu
    unfold isAgg
    cases d <;> simp only [Option.some.injEq] at h <;> subst h <;> simp [run_underlying this]

/-! ### Constants -/

theorem scalarOf_ok {v : Value} {a : AV} (h : scalarOf v = some a) (μ : Mu) : VR μ a v := by
  unfold scalarOf at h
  split at h <;> cases h <;> simp only [VR]

theorem scalarsOf_ok : ∀ {l : List Value} {as : List AV}, scalarsOf l = some as → ∀ (μ : Mu), VRs μ as l
  | [], as, h, μ => by cases h; rfl
  | v :: vs, as, h, μ => by
    unfold scalarsOf at h
    cases hv : scalarOf v with
    | none => rw [hv] at h; cases h
    | some a =>
      rw [hv] at h
      cases hvs : scalarsOf vs with
      | none => rw [hvs] at h; cases h
      | some as' => rw [hvs] at h; cases h; exact ⟨v, vs, rfl, scalarOf_ok hv μ, scalarsOf_ok hvs μ⟩

theorem valOf_ok {v : Value} {a : AV} (h : valOf v = some a) (μ : Mu) : VR μ a v := by
  unfold valOf at h
  split at h
  · rename_i cs
    cases hs : scalarsOf cs.toList with
    | none => rw [hs] at h; cases h
    | some as => rw [hs] at h; cases h; simp only [VR]; exact ⟨cs, rfl, scalarsOf_ok hs μ⟩
  · rename_i cs
    cases hs : scalarsOf cs.toList with
    | none => rw [hs] at h; cases h
    | some as => rw [hs] at h; cases h; simp only [VR]; exact ⟨cs, rfl, scalarsOf_ok hs μ⟩
  · rename_i t x
    cases hs : scalarOf x with
    | none => rw [hs] at h; cases h
    | some as => rw [hs] at h; cases h; simp only [VR]; exact ⟨x, rfl, scalarOf_ok hs μ⟩
  · exact scalarOf_ok h μ

theorem zero_ok (hC : TyOk P C) {t : Nat} {a : AV} (h : zero? C t = some a) : ∃ z, (∀ w, (zeroValue t).run P w = .ok z w) ∧ ∀ μ, VR μ a z := by
  unfold zero? at h
  cases ht : C.ty t with
  | none => rw [ht] at h; cases h
  | some i =>
    rw [ht] at h
    simp only at h
    cases hz : i.zero with
    | none => rw [hz] at h; cases h
    | some z =>
      rw [hz] at h
      exact ⟨z, fun w => by simp [zeroValue, run_typeInfo (hC.ty t i ht), hz], valOf_ok h⟩

/-! ### Rows of cells -/

theorem Addr.add_eq (b o n : Nat) : (⟨b, o, none⟩ : Addr).add n = ⟨b, o + n, none⟩ := Addr.add_lit b o n

theorem cell?_of {w : World} {b : Nat} {cs : Array Value} {e : TypeId} {fr : Nat × Nat} (h : w.heap[b]? = some (.cells cs e fr)) (o : Nat) : w.cell? ⟨b, o, none⟩ = cs[o]? := by
  simp [World.cell?, h]

theorem St.mt_row {s : St} {id : Nat} {n : Nat} {e : TypeId} {fz : Nat × Nat} {m : Mode} (h : s.mt id = some (.cells n e fz m)) : ∃ cs, s.heap.get id = some (.cells cs e fz m) ∧ cs.length = n := by
  obtain ⟨_, o, ho, hm⟩ := St.mt_some h
  obtain ⟨cs, rfl, hl⟩ := AObj.mt_cells hm
  exact ⟨cs, ho, hl⟩

theorem St.mt_ob {s : St} {id : Nat} {o : AObj} (h : s.mt id = some (.obj o)) : s.heap.get id = some o ∧ isRow (some o) = false := by
  obtain ⟨_, o', ho, hm⟩ := St.mt_some h
  obtain ⟨rfl, hr⟩ := AObj.mt_obj hm
  exact ⟨ho, hr⟩

theorem chained_live {s : St} {cs : List AV} {e : TypeId} {fz : Nat × Nat} {m : Mode} (h : chained s m = true) : live s.heap.get (.cells cs e fz m) := by
  cases m with
  | ro c =>
    simp only [live]
    unfold chained at h
    dsimp only at h
    cases hm : s.mt c with
    | none => rw [hm] at h; cases h
    | some x =>
      rw [hm] at h
      cases x with
      | cells => cases h
      | obj o => cases o <;> first | exact (St.mt_ob hm).1 | cases h
  | _ => trivial

theorem rowD_sound {s s' : St} {id n : Nat} {e : TypeId} {fz : Nat × Nat} {m : Mode} {μ : Mu} {w : World} (hR : Rep base μ s.heap.get w) (h : rowD id s = some ((n, e, fz, m), s')) :
    s' = s ∧ ∃ cs i, s.heap.get id = some (.cells cs e fz m) ∧ cs.length = n ∧ live s.heap.get (.cells cs e fz m) ∧ μ id = some i ∧ ObjR μ w i (.cells cs e fz m) := by
  obtain ⟨rfl, hm, hc⟩ := rowD_some h
  obtain ⟨cs, hg, hl⟩ := St.mt_row hm
  have hlv := chained_live (cs := cs) (e := e) (fz := fz) hc
  obtain ⟨i, hi, hr⟩ := hR.obj id _ hg hlv (by simp)
  exact ⟨rfl, cs, i, hg, hl, hlv, hi, hr⟩

theorem rdN_sound {s s' : St} {id off n : Nat} {vs : List AV} {μ : Mu} {w : World} (hR : Rep base μ s.heap.get w) (h : rdN id off n s = some (vs, s')) :
    s' = s ∧ ∃ i X e fr xs, μ id = some i ∧ w.heap[i.blk]? = some (.cells X e fr) ∧ xs.length = n ∧ VRs μ vs xs ∧ (∀ v ∈ vs, v.one = true) ∧ (∀ k x, xs[k]? = some x → X[i.off + off + k]? = some x) := by
  obtain ⟨rfl, cs, e, fz, m, hg, hh, hc, hl, hv, rfl⟩ := rdN_some h
  obtain ⟨i, hi, X, fr, hX, hcr, _⟩ := hR.obj id _ hg (chained_live hc) (by simp)
  refine ⟨rfl, i, X, e, fr, (List.range n).map fun k => X.getD (i.off + off + k) undef, hi, hX, by simp, ?_, ?_, ?_⟩
  · refine VRs.iff.2 ⟨by simp; omega, fun k x hx => ?_⟩
    rw [List.getElem?_take] at hx
    split at hx
    · rename_i hk
      rw [List.getElem?_drop] at hx
      obtain ⟨y, hy, hr, _⟩ := hcr _ x hx
      have hy' : X[i.off + off + k]? = some y := by rw [← hy]; congr 1; omega
      refine ⟨y, ?_, hr⟩
      rw [List.getElem?_map, List.getElem?_range hk]
      simp [Array.getD_eq_getD_getElem?, hy']
    · cases hx
  · intro v hv'
    obtain ⟨k, hk⟩ := List.getElem?_of_mem hv'
    rw [List.getElem?_take] at hk
    split at hk
    · rw [List.getElem?_drop] at hk
      exact (hcr _ v hk).choose_spec.2.2
    · cases hk
  · intro k x hx
    rw [List.getElem?_map] at hx
    cases hk : (List.range n)[k]? with
    | none => rw [hk] at hx; cases hx
    | some j =>
      rw [hk] at hx
      obtain ⟨hlt, rfl⟩ := List.getElem?_eq_some_iff.1 hk
      simp only [List.length_range] at hlt
      simp only [List.getElem_range, Option.map_some, Option.some.injEq] at hx
      have hlt2 : off + k < cs.length := by omega
      obtain ⟨y, hy, _, _⟩ := hcr (off + k) cs[off + k] (List.getElem?_eq_getElem hlt2)
      have hy' : X[i.off + off + k]? = some y := by rw [← hy]; congr 1; omega
      rw [← hx, hy']
      simp [Array.getD_eq_getD_getElem?, hy']

theorem run_loadCells_row {w : World} {b o : Nat} {X : Array Value} {e : TypeId} {fr : Nat × Nat} {xs : List Value} (hX : w.heap[b]? = some (.cells X e fr)) (h : ∀ (k : Nat) x, xs[k]? = some x → X[o + k]? = some x) :
    (loadCells ⟨b, o, none⟩ xs.length).run P w = .ok xs.toArray w :=
  run_loadCells_list w ⟨b, o, none⟩ xs fun j v hv => by rw [Addr.add_eq, cell?_of hX]; exact h j v hv

theorem load_sim (hC : TyOk P C) {t : Nat} {a v : AV} {av : Value} {s s' : St} {μ : Mu} {w : World} (hR : Rep base μ s.heap.get w) (ha : VR μ a av) (h : load C t a s = some (v, s')) :
    s' = s ∧ ∃ x, (∀ b, av = .pointer b → ∃ c, b = some c ∧ (loadVar t c).run P w = .ok x w) ∧ (Instr.loadAt t av).run P w = .ok x w ∧ VR μ v x := by
  cases a with
  | ptr id off =>
    simp only [load] at h
    obtain ⟨ag, s1, h1, h2⟩ := DM.bind_some h
    obtain ⟨hag, rfl⟩ := DM.lift_some h1
    simp only [VR] at ha
    obtain ⟨i, hi, rfl⟩ := ha
    cases ag with
    | true =>
      simp only at h2
      obtain ⟨n, s2, h3, h4⟩ := DM.bind_some h2
      obtain ⟨hn, rfl⟩ := DM.lift_some h3
      obtain ⟨cs, s3, h5, h6⟩ := DM.bind_some h4
      obtain ⟨rfl, i', X, e, fr, xs, hi', hX, hl, hvr, _, hx⟩ := rdN_sound hR h5
      obtain ⟨rfl, rfl⟩ := DM.pure_some h6
      rw [hi] at hi'; cases hi'
      have hload : (loadVar t ⟨i.blk, i.off + off, none⟩).run P w = .ok (.agg xs.toArray) w := by
        subst hl
        simp [loadVar, isAgg_ok hC hag, sizeOf_ok hC hn, run_loadCells_row hX hx]
      refine ⟨rfl, .agg xs.toArray, fun b hb => ⟨_, by cases hb; rfl, hload⟩, by simp [Instr.loadAt, Instr.sureAddr, hload], ?_⟩
      simp only [VR]
      exact ⟨xs.toArray, rfl, by simpa using hvr⟩
    | false =>
      simp only [rd1] at h2
      obtain ⟨cs, s3, h5, h6⟩ := DM.bind_some h2
      obtain ⟨rfl, i', X, e, fr, xs, hi', hX, hl, hvr, _, hx⟩ := rdN_sound hR h5
      rw [hi] at hi'; cases hi'
      split at h6
      · rename_i u
        obtain ⟨rfl, rfl⟩ := DM.pure_some h6
        simp only [VRs] at hvr
        obtain ⟨x, _, rfl, hr, rfl⟩ := hvr
        have hxx := hx 0 x rfl
        simp only [Nat.add_zero] at hxx
        have hload : (loadVar t ⟨i.blk, i.off + off, none⟩).run P w = .ok x w := by
          simp [loadVar, isAgg_ok hC hag, cell?_of hX, hxx]
        exact ⟨rfl, x, fun b hb => ⟨_, by cases hb; rfl, hload⟩, by simp [Instr.loadAt, Instr.sureAddr, hload], hr⟩
      · exact (DM.fail_some h6).elim
  | _ => exact (DM.fail_some (s := s) (r := (v, s')) h).elim

/-! ### Writing -/

theorem Tr.get_set_fun {α : Type} (t : Tr α) (n : Nat) (x : Option α) : (t.set n x).get = fun j => if j = n then x else t.get j := funext fun j => Tr.get_set t n x j

theorem setCell_eq {w : World} {b o : Nat} {X : Array Value} {e : TypeId} {fr : Nat × Nat} (h : w.heap[b]? = some (.cells X e fr)) (v : Value) :
    w.setCell ⟨b, o, none⟩ v = { w with heap := w.heap.setIfInBounds b (.cells (X.setIfInBounds o v) e fr) } := by
  unfold World.setCell
  congr 1
  apply Array.ext_getElem?
  intro i
  simp only [Array.getElem?_modify, Array.getElem?_setIfInBounds]
  by_cases hb : b = i
  · subst hb
    obtain ⟨hlt, he⟩ := Array.getElem?_eq_some_iff.1 h
    simp [hlt, he]
  · simp [hb]

theorem setHeap_twice (w : World) (b : Nat) (o o' : Obj) : ({ ({ w with heap := w.heap.setIfInBounds b o } : World) with heap := ({ w with heap := w.heap.setIfInBounds b o } : World).heap.setIfInBounds b o' } : World) = { w with heap := w.heap.setIfInBounds b o' } := by
  simp

theorem setHeap_self {w : World} {b : Nat} {o : Obj} (h : w.heap[b]? = some o) : ({ w with heap := w.heap.setIfInBounds b o } : World) = w := by
  have : w.heap.setIfInBounds b o = w.heap := by
    apply Array.ext_getElem?
    intro i
    rw [Array.getElem?_setIfInBounds]
    by_cases hb : b = i
    · subst hb
      obtain ⟨hlt, he⟩ := Array.getElem?_eq_some_iff.1 h
      simp [hlt, he]
    · simp [hb]
  rw [this]

theorem splice_cons {α : Type} (l : List α) (o : Nat) (v : α) (vs : List α) (h : o + (v :: vs).length ≤ l.length) : splice (l.set o v) (o + 1) vs = splice l o (v :: vs) := by
  apply List.ext_getElem?
  intro c
  simp only [List.length_cons] at h
  rw [splice_get _ _ _ (by simp; omega), splice_get _ _ _ (by simpa using h)]
  simp only [List.length_cons]
  by_cases h1 : c = o
  · subst h1
    rw [if_neg (by omega), if_pos (by omega)]
    simp [show c < l.length by omega]
  · by_cases h2 : o + 1 ≤ c ∧ c < o + 1 + vs.length
    · rw [if_pos h2, if_pos (by omega), show c - o = (c - (o + 1)) + 1 by omega]; simp
    · rw [if_neg h2, if_neg (by omega)]
      rw [List.getElem?_set_ne (by omega)]

theorem run_storeCells_row {b : Nat} {e : TypeId} {fr : Nat × Nat} : ∀ (xs : List Value) (w : World) (X : Array Value) (o i : Nat), w.heap[b]? = some (.cells X e fr) → o + i + xs.length ≤ X.size → (∀ x ∈ xs, x.oneCell' = true) →
    (∀ k, k < xs.length → ¬(fr.1 ≤ o + i + k ∧ o + i + k < fr.2)) →
    (storeCells ⟨b, o, none⟩ xs i).run P w = .ok () { w with heap := w.heap.setIfInBounds b (.cells (splice X.toList (o + i) xs).toArray e fr) }
  | [], w, X, o, i, h, hl, h1, hf => by
    have : splice X.toList (o + i) [] = X.toList := by simp [splice]
    rw [this]
    simp only [storeCells, Sem.run_pure, Array.toArray_toList]
    rw [setHeap_self h]
  | x :: xs, w, X, o, i, h, hl, h1, hf => by
    simp only [List.length_cons] at hl hf
    have hlt : o + i < X.size := by omega
    have hc : w.cell? ⟨b, o + i, none⟩ = some X[o + i] := by rw [cell?_of h, Array.getElem?_eq_getElem hlt]
    have hfz : w.frozen? ⟨b, o + i, none⟩ = false := by
      have := hf 0 (by omega)
      simp only [World.frozen?, h]
      simp only [Nat.add_zero] at this
      cases hh : decide (fr.1 ≤ o + i) <;> simp_all
    have hs := setCell_eq (o := o + i) h x
    have h' : (w.setCell ⟨b, o + i, none⟩ x).heap[b]? = some (.cells (X.setIfInBounds (o + i) x) e fr) := by
      rw [hs]; simp [(Array.getElem?_eq_some_iff.1 h).1]
    have ih := run_storeCells_row xs (w.setCell ⟨b, o + i, none⟩ x) (X.setIfInBounds (o + i) x) o (i + 1) h' (by simp; omega) (fun y hy => h1 y (List.mem_cons_of_mem _ hy))
      (fun k hk => by have := hf (k + 1) (by omega); rw [show o + (i + 1) + k = o + i + (k + 1) by omega]; exact this)
    simp only [storeCells, Sem.run_bind, Addr.add_eq, run_store P w _ x .plain (h1 x (by simp)), hc, hfz, Bool.false_eq_true, if_false, Result.andThen_ok]
    rw [ih, hs]
    congr 1
    simp only [Array.setIfInBounds_setIfInBounds]
    congr 4
    rw [show o + (i + 1) = o + i + 1 by omega]
    rw [Array.toList_setIfInBounds]
    exact splice_cons _ _ _ _ (by simp; omega)

/-- An own row's cells are written. -/
theorem Rep.store {μ : Mu} {g : Nat → Option AObj} {w : World} (h : Rep base μ g w) {id off : Nat} {cs vs : List AV} {e : TypeId} {fz : Nat × Nat} {m : Mode} (hg : g id = some (.cells cs e fz m)) (hm : m = .fixed ∨ m = .grow none)
    {i : Info} (hi : μ id = some i) (hl : off + vs.length ≤ cs.length) (ho : ∀ v ∈ vs, v.one = true) (hz : ∀ k, k < vs.length → ¬(fz.1 ≤ off + k ∧ off + k < fz.2)) {xs : List Value} (hx : VRs μ vs xs) :
    ∃ w', (storeCells ⟨i.blk, i.off + off, none⟩ xs).run P w = .ok () w' ∧ Rep base μ (fun j => if j = id then some (.cells (splice cs off vs) e fz m) else g j) w' ∧ w'.heap.size = w.heap.size := by
  have hown : owned (.cells cs e fz m) := by rcases hm with rfl | rfl <;> trivial
  have hlv : live g (.cells cs e fz m) := by rcases hm with rfl | rfl <;> trivial
  obtain ⟨i', hi', X, fr, hX, hcr, hmd⟩ := h.obj id _ hg hlv (by simp)
  rw [hi] at hi'; cases hi'
  have hxl := hx.length
  have hsize : i.off + cs.length ≤ X.size ∧ cs.length ≤ i.csize ∧ FzR i fr fz := by
    rcases hm with rfl | rfl
    · obtain ⟨a, b, c, d⟩ := hmd; exact ⟨by omega, by omega, d⟩
    · obtain ⟨a, b, c⟩ := hmd; exact ⟨by omega, b, c⟩
  have hrun := run_storeCells_row (P := P) xs w X (i.off + off) 0 hX (by omega) (fun x hxm => by
      obtain ⟨k, hk⟩ := List.getElem?_of_mem hxm
      have hlt : k < vs.length := by rw [hxl]; exact (List.getElem?_eq_some_iff.1 hk).1
      obtain ⟨y, hy, hr⟩ := hx.get (List.getElem?_eq_getElem hlt)
      rw [hk] at hy; cases hy
      exact hr.one (ho _ (List.getElem_mem hlt)))
    (fun k hk hh => hz k (by omega) (by
      have := hsize.2.2.1 (off + k) (by omega) (by omega) (by omega)
      exact this))
  simp only [Nat.add_zero] at hrun
  refine ⟨_, hrun, ?_, by simp⟩
  refine h.set hg hown ?_ hi (by simp) ?_ ?_
  · intro c cs' e' fz' hh
    rcases hm with rfl | rfl <;> cases hh
  · intro cs' e' fz' c hh
    rcases hm with rfl | rfl <;> rcases hh with hh | hh <;> cases hh
  · refine ⟨(splice X.toList (i.off + off) xs).toArray, fr, by simp [(Array.getElem?_eq_some_iff.1 hX).1], ?_, ?_⟩
    · intro k v hk
      rw [splice_get _ _ _ hl] at hk
      simp only [List.getElem?_toArray]
      rw [splice_get _ _ _ (by simp; omega)]
      by_cases hin : off ≤ k ∧ k < off + vs.length
      · rw [if_pos hin] at hk
        rw [if_pos (by omega), show i.off + k - (i.off + off) = k - off by omega]
        obtain ⟨y, hy, hr⟩ := hx.get hk
        exact ⟨y, hy, hr, ho _ (List.mem_of_getElem? hk)⟩
      · rw [if_neg hin] at hk
        rw [if_neg (by omega)]
        obtain ⟨y, hy, hr⟩ := hcr k v hk
        exact ⟨y, by simpa using hy, hr⟩
    · have hsz : (splice X.toList (i.off + off) xs).toArray.size = X.size := by
        simp only [List.size_toArray]; rw [splice_length _ _ _ (by simp; omega)]; simp
      have hsl := splice_length cs off vs hl
      rcases hm with rfl | rfl
      · obtain ⟨a, b, c, d⟩ := hmd; exact ⟨a, by rw [hsz]; exact b, by rw [hsz, hsl]; exact c, d⟩
      · obtain ⟨a, b, c⟩ := hmd; exact ⟨by rw [hsz]; exact a, by rw [hsl]; exact b, c⟩

theorem wr_sim {id off : Nat} {vs : List AV} {s s' : St} {μ : Mu} {w : World} {u : Unit} {xs : List Value} (hR : Rep base μ s.heap.get w) (hx : VRs μ vs xs) (h : wr id off vs s = some (u, s')) :
    ∃ i w', μ id = some i ∧ (storeCells ⟨i.blk, i.off + off, none⟩ xs).run P w = .ok () w' ∧ Rep base μ s'.heap.get w' ∧ s'.ctr = s.ctr ∧ s'.rc = s.rc := by
  unfold wr at h
  obtain ⟨⟨n, e, fz, m⟩, s1, h1, h2⟩ := DM.bind_some h
  obtain ⟨rfl, cs, i, hg, hl, hlv, hi, hO⟩ := rowD_sound hR h1
  obtain ⟨_, s2, h3, h4⟩ := DM.bind_some h2
  obtain ⟨hb1, rfl⟩ := DM.guard_some h3
  obtain ⟨_, s3, h5, h6⟩ := DM.bind_some h4
  obtain ⟨hb2, rfl⟩ := DM.guard_some h5
  obtain ⟨_, s4, h7, h8⟩ := DM.bind_some h6
  obtain ⟨hb3, rfl⟩ := DM.guard_some h7
  have hle : off + vs.length ≤ cs.length := by have := of_ble hb1; omega
  have hone : ∀ v ∈ vs, v.one = true := List.all_eq_true.1 hb2
  have hz : ∀ k, k < vs.length → ¬(fz.1 ≤ off + k ∧ off + k < fz.2) := by
    intro k hk hh
    simp only [Bool.or_eq_true, Nat.ble_eq, List.isEmpty_iff] at hb3
    rcases hb3 with (hb3 | hb3) | hb3
    · omega
    · omega
    · subst hb3; simp at hk
  cases m with
  | fixed =>
    simp only at h8
    obtain ⟨cs', e', fz', m', hg', _, _, _, _, rfl⟩ := setCells_some h8
    rw [hg] at hg'; cases hg'
    obtain ⟨w', hrun, hR', _⟩ := Rep.store (P := P) hR hg (.inl rfl) hi hle hone hz hx
    exact ⟨i, w', hi, hrun, by simp only [Tr.get_set_fun]; exact hR', rfl, rfl⟩
  | grow c =>
    cases c with
    | none =>
      simp only at h8
      obtain ⟨cs', e', fz', m', hg', _, _, _, _, rfl⟩ := setCells_some h8
      rw [hg] at hg'; cases hg'
      obtain ⟨w', hrun, hR', _⟩ := Rep.store (P := P) hR hg (.inr rfl) hi hle hone hz hx
      exact ⟨i, w', hi, hrun, by simp only [Tr.get_set_fun]; exact hR', rfl, rfl⟩
    | some c =>
      simp only at h8
      obtain ⟨_, s5, h9, h10⟩ := DM.bind_some h8
      obtain ⟨x, hxx, hlt, _, rfl⟩ := putObj_some h9
      obtain ⟨_, s6, h11, h12⟩ := DM.bind_some h10
      obtain ⟨cs', e', fz', m', hg', _, _, rfl⟩ := setMode_some h11
      obtain ⟨cs2, e2, fz2, m2, hg2, _, _, _, _, rfl⟩ := setCells_some h12
      have hne : id ≠ c := by
        rintro rfl
        have := (St.mt_ob hxx)
        rw [hg] at this
        obtain ⟨h1, h2⟩ := this
        cases h1
        cases h2
      simp only [Tr.get_set_fun, if_neg hne] at hg'
      rw [hg] at hg'; cases hg'
      simp only [Tr.get_set_fun, if_true] at hg2
      cases hg2
      -- the chain goes
      have hR1 := hR.erase c
      -- the row is no more one that others may look at
      have hg1 : (fun j => if j = c then none else s4.heap.get j) id = some (.cells cs e fz (.grow (some c))) := by simp only [if_neg hne]; exact hg
      have hR2 : Rep base μ (fun j => if j = id then some (.cells cs e fz (.grow none)) else (if j = c then none else s4.heap.get j)) w := by
        obtain ⟨i', hi', X, fr, hX, hcr, hmd⟩ := hR1.obj id _ hg1 trivial (by simp)
        have hset := hR1.set (o' := .cells cs e fz (.grow none)) hg1 trivial (fun c' cs' e' fz' hh => by cases hh; simp) hi (by simp) (fun cs' e' fz' c' hh => by rcases hh with hh | hh <;> cases hh)
          (O := .cells X e fr) (by
            rw [hi] at hi'; cases hi'
            rw [setHeap_self hX]
            exact ⟨X, fr, hX, hcr, hmd⟩)
        rw [hi] at hi'; cases hi'
        rw [setHeap_self hX] at hset
        exact hset
      obtain ⟨w', hrun, hR', _⟩ := Rep.store (P := P) hR2 (id := id) (cs := cs) (e := e) (fz := fz) (m := .grow none) (by simp) (.inr rfl) hi hle hone hz hx
      refine ⟨i, w', hi, hrun, ?_, rfl, rfl⟩
      have : (((s4.heap.set c none).set id (some (.cells cs e fz (.grow none)))).set id (some (.cells (splice cs off vs) e fz (.grow none)))).get =
          fun j => if j = id then some (.cells (splice cs off vs) e fz (.grow none)) else (if j = id then some (.cells cs e fz (.grow none)) else (if j = c then none else s4.heap.get j)) := by
        simp only [Tr.get_set_fun]
      rw [this]
      exact hR'
  | ro c => exact (DM.fail_some h8).elim
  | const => exact (DM.fail_some h8).elim

theorem store_sim (hC : TyOk P C) {t : Nat} {a v : AV} {av vv : Value} {s s' : St} {μ : Mu} {w : World} {u : Unit} (hR : Rep base μ s.heap.get w) (ha : VR μ a av) (hv : VR μ v vv) (h : store C t a v s = some (u, s')) :
    ∃ w', (Instr.storeAt t av vv).run P w = .ok () w' ∧ Rep base μ s'.heap.get w' ∧ s'.ctr = s.ctr ∧ s'.rc = s.rc := by
  cases a with
  | ptr id off =>
    simp only [store] at h
    obtain ⟨n, s1, h1, h2⟩ := DM.bind_some h
    obtain ⟨hn, rfl⟩ := DM.lift_some h1
    obtain ⟨_, s2, h3, h4⟩ := DM.bind_some h2
    obtain ⟨hb, rfl⟩ := DM.guard_some h3
    have hlen := Nat.beq_true hb
    obtain ⟨i, w', hi, hrun, hR', hc, hr⟩ := wr_sim (P := P) hR hv.cells h4
    simp only [VR] at ha
    obtain ⟨i', hi', rfl⟩ := ha
    rw [hi] at hi'; cases hi'
    refine ⟨w', ?_, hR', hc, hr⟩
    have hvl : vv.cells.size = n := by rw [← hlen, hv.cells.length]; simp
    simp only [Instr.storeAt, Instr.sureAddr, storeVar, Sem.run_bind, Sem.run_pure, Result.andThen_ok, sizeOf_ok hC hn, hvl]
    simp [hrun]
  | _ => exact (DM.fail_some (s := s) (r := (u, s')) h).elim

/-! ### New rows -/

theorem newCells_sim {e : Nat} {cs : List AV} {s s' : St} {μ : Mu} {w : World} {id : Nat} {xs : Array Value} (hR : Rep base μ s.heap.get w) (hx : VRs μ cs xs.toList) (h : newCells e cs s = some (id, s')) (hF : Fresh μ s.heap.get s.ctr s'.ctr) :
    ∃ i, (newRow e xs).run P w = .ok ⟨i.blk, 0, none⟩ (w.alloc (.cells xs e)) ∧ Rep base (upd μ id i) s'.heap.get (w.alloc (.cells xs e)) ∧ Ext' μ (upd μ id i) s.ctr s'.ctr ∧ i.off = 0 ∧ i.csize = cs.length ∧ id = s.ctr ∧ s'.ctr = s.ctr + 1 ∧ s'.rc = s.rc ∧
      s'.heap.get = fun j => if j = id then some (.cells cs e (0, 0) .fixed) else s.heap.get j := by
  unfold newCells at h
  obtain ⟨_, s1, h1, h2⟩ := DM.bind_some h
  obtain ⟨hb, rfl⟩ := DM.guard_some h1
  simp only [new, St.born_eq, Option.some.injEq, Prod.mk.injEq] at h2
  obtain ⟨rfl, rfl⟩ := h2
  obtain ⟨hμ, hg⟩ := hF s1.ctr (Nat.le_refl _) (by simp)
  have hone : ∀ v ∈ cs, v.one = true := List.all_eq_true.1 hb
  have hxl : cs.length = xs.size := by rw [hx.length]; simp
  let i : Info := ⟨w.heap.size, 0, cs.length⟩
  have hobj : ObjR (upd μ s1.ctr i) (w.alloc (.cells xs e)) i (.cells cs e (0, 0) .fixed) := by
    refine ⟨xs, (0, 0), by show (w.heap.push _)[w.heap.size]? = _; simp, ?_, rfl, hxl, hxl, ?_⟩
    · intro k v hk
      obtain ⟨y, hy, hr⟩ := hx.get hk
      exact ⟨y, by simpa [i] using hy, VR.mono (upd_le i hμ) _ _ hr, hone _ (List.mem_of_getElem? hk)⟩
    · exact FzR.none _ _
  refine ⟨i, by simp [newRow, i], ?_, upd_ext i hμ, rfl, rfl, rfl, rfl, rfl, ?_⟩
  · have := hR.new hμ hg (by simp) (fun cs e fz c hh => by rcases hh with hh | hh <;> cases hh) (O := .cells xs e) (i := i) rfl hobj
    simp only [Tr.get_set_fun]
    exact this
  · simp only [Tr.get_set_fun]

/-! ### Building -/

theorem foldl_splice (v : List Value) : ∀ (xs : Array Value) (off j : Nat), off + j + v.length ≤ xs.size →
    (v.zipIdx j).foldl (fun cs p => cs.setIfInBounds (off + p.2) p.1) xs = (splice xs.toList (off + j) v).toArray := by
  induction v with
  | nil => intro xs off j h; simp [splice]
  | cons x v ih =>
    intro xs off j h
    simp only [List.length_cons] at h
    simp only [List.zipIdx_cons, List.foldl_cons]
    rw [ih _ off (j + 1) (by simp; omega)]
    congr 1
    rw [Array.toList_setIfInBounds, show off + (j + 1) = off + j + 1 by omega]
    exact splice_cons _ _ _ _ (by simp; omega)

theorem fill_sim {place : Nat → Option (Nat × Nat)} {place' : Nat → Option (Nat × Nat)} (hp : ∀ i r, place i = some r → place' i = some r) {μ : Mu} : ∀ (parts : List (Nat × AV)) (cs r : List AV) (xs : Array Value) (ps : List (Nat × Value)),
    fill place cs parts = some r → VRs μ cs xs.toList → (ps.map (·.1) = parts.map (·.1)) → VRs μ (parts.map (·.2)) (ps.map (·.2)) → ∃ ys, Instr.fill place' xs ps = some ys ∧ VRs μ r ys.toList
  | [], cs, r, xs, ps, h, hx, h1, h2 => by
    simp only [fill, Option.some.injEq] at h; subst h
    cases ps with
    | nil => exact ⟨xs, rfl, hx⟩
    | cons => simp at h1
  | (i, v) :: rest, cs, r, xs, ps, h, hx, h1, h2 => by
    cases ps with
    | nil => simp at h1
    | cons p ps =>
      obtain ⟨i', v'⟩ := p
      simp only [List.map_cons, List.cons.injEq] at h1
      obtain ⟨rfl, h1⟩ := h1
      simp only [List.map_cons, VRs] at h2
      obtain ⟨x, xs', heq, hv, hvs⟩ := h2
      simp only [List.cons.injEq] at heq
      obtain ⟨rfl, rfl⟩ := heq
      unfold fill at h
      cases hpl : place i' with
      | none => rw [hpl] at h; cases h
      | some q =>
        obtain ⟨off, size⟩ := q
        rw [hpl] at h
        simp only at h
        split at h
        · rename_i hg
          simp only [Bool.and_eq_true, Nat.ble_eq] at hg
          have hsz := Nat.beq_true hg.1
          have hvc := hv.cells
          have hvl := hvc.length
          have hxl := hx.length
          simp only [Array.length_toList] at hvl hxl
          obtain ⟨ys, hys, hr⟩ := fill_sim hp rest _ r (splice xs.toList off v'.cells.toList).toArray ps h (by simpa using hx.splice hvc off) h1 hvs
          refine ⟨ys, ?_, hr⟩
          unfold Instr.fill
          rw [hp _ _ hpl]
          simp only
          have c1 : ¬((decide (v'.cells.size ≠ size) || decide (off + v'.cells.size > xs.size)) = true) := by
            simp only [Bool.or_eq_true, decide_eq_true_eq]; omega
          rw [if_neg c1]
          have hf := foldl_splice v'.cells.toList xs off 0 (by simp; omega)
          simp only [Nat.add_zero] at hf
          have : Array.foldl (fun cs x => cs.setIfInBounds (off + x.2) x.1) xs v'.cells.zipIdx = (splice xs.toList off v'.cells.toList).toArray := by
            rw [← hf, ← Array.foldl_toList]
            simp [Array.toList_zipIdx]
          rw [this]
          exact hys
        · cases h

end Pd
