/-
  The evaluator's operations and the model's: maps.
-/
import Derived.Test.YteaddglfdjnbdaaGreatDoorPdOps10
import Derived.Laws.RangeString
set_option linter.unusedVariables false
set_option linter.unusedSimpArgs false
namespace Pd
open Go
variable {P : Program} {C : Ctx} {base : World}

theorem findD_some {kk : KK} {k : AV} : ∀ {es : List (AV × AV × Nat)} {i j b : Nat} {v : AV}, findD kk k es i = some (some (j, v, b)) → ∃ m k', j = i + m ∧ es[m]? = some (k', v, b) ∧ keyEq kk k k' = some true
  | [], i, j, b, v, h => by cases h
  | (k', v', b') :: es, i, j, b, v, h => by
    unfold findD at h
    cases hq : keyEq kk k k' with
    | none => rw [hq] at h; cases h
    | some q =>
      rw [hq] at h
      cases q with
      | true => cases h; exact ⟨0, k', rfl, rfl, hq⟩
      | false =>
        obtain ⟨m, k2, h1, h2, h3⟩ := findD_some h
        exact ⟨m + 1, k2, by omega, h2, h3⟩

theorem EntsR.get {μ : Mu} : ∀ {es : List (AV × AV × Nat)} {E : List MapEntry} {m : Nat} {x : AV × AV × Nat}, EntsR μ es E → es[m]? = some x → ∃ e, E[m]? = some e ∧ VR μ x.1 e.key ∧ VR μ x.2.1 e.val ∧ e.born = x.2.2
  | [], E, m, x, h, hx => by simp at hx
  | (k, v, b) :: es, E, m, x, h, hx => by
    simp only [EntsR] at h
    obtain ⟨e, l', rfl, h1, h2, h3, h4⟩ := h
    cases m with
    | zero => simp at hx; subst hx; exact ⟨e, rfl, h1, h2, h3⟩
    | succ m => obtain ⟨e', a⟩ := EntsR.get h4 (by simpa using hx); exact ⟨e', by simpa using a⟩

theorem EntsR.setAt {μ : Mu} : ∀ {es : List (AV × AV × Nat)} {E : List MapEntry} {m : Nat} {x : AV × AV × Nat} {f : MapEntry → MapEntry}, EntsR μ es E → (∀ e, E[m]? = some e → VR μ x.1 (f e).key ∧ VR μ x.2.1 (f e).val ∧ (f e).born = x.2.2) → EntsR μ (setAt es m x) (E.modify m f)
  | [], E, m, x, f, h, hx => by
    simp only [EntsR] at h; subst h
    cases m <;> simp [Pd.setAt, EntsR]
  | (k, v, b) :: es, E, m, x, f, h, hx => by
    simp only [EntsR] at h
    obtain ⟨e, l', rfl, h1, h2, h3, h4⟩ := h
    cases m with
    | zero =>
      obtain ⟨x1, x2, x3⟩ := x
      simp only [Pd.setAt, List.modify_zero_cons, EntsR]
      obtain ⟨a, b, c⟩ := hx e rfl
      exact ⟨f e, l', rfl, a, b, c, h4⟩
    | succ m =>
      simp only [Pd.setAt, List.modify_succ_cons, EntsR]
      exact ⟨e, _, rfl, h1, h2, h3, EntsR.setAt h4 (fun e' he' => hx e' (by simpa using he'))⟩

theorem EntsR.append {μ : Mu} : ∀ {es fs : List (AV × AV × Nat)} {E F : List MapEntry}, EntsR μ es E → EntsR μ fs F → EntsR μ (es ++ fs) (E ++ F)
  | [], fs, E, F, h, k => by simp only [EntsR] at h; subst h; simpa using k
  | (k, v, b) :: es, fs, E, F, h, k' => by
    simp only [EntsR] at h
    obtain ⟨e, l', rfl, h1, h2, h3, h4⟩ := h
    simp only [List.cons_append, EntsR]
    exact ⟨e, _, rfl, h1, h2, h3, EntsR.append h4 k'⟩

theorem EntsR.eraseAt {μ : Mu} : ∀ {es : List (AV × AV × Nat)} {E : List MapEntry} {m : Nat}, EntsR μ es E → EntsR μ (eraseAt es m) (E.eraseIdx m)
  | [], E, m, h => by simp only [EntsR] at h; subst h; simp [Pd.eraseAt, EntsR]
  | (k, v, b) :: es, E, m, h => by
    simp only [EntsR] at h
    obtain ⟨e, l', rfl, h1, h2, h3, h4⟩ := h
    cases m with
    | zero => simpa [Pd.eraseAt] using h4
    | succ m => simp only [Pd.eraseAt, List.eraseIdx_cons_succ, EntsR]; exact ⟨e, _, rfl, h1, h2, h3, EntsR.eraseAt h4⟩

/-- An object that is no row is turned. -/
theorem putObj_rep {μ : Mu} {s s' : St} {w : World} {id : Nat} {o o' : AObj} {u : Unit} {i : Info} {O : Obj} (hR : Rep base μ s.heap.get w) (h : putObj id (some o') s = some (u, s')) (ho : s.heap.get id = some o) (hown : owned o) (hrow : isRow (some o) = false)
    (hi : μ id = some i) (hoc : o' ≠ .chain) (hnew : ObjR μ { w with heap := w.heap.setIfInBounds i.blk O } i o') :
    Rep base μ s'.heap.get { w with heap := w.heap.setIfInBounds i.blk O } ∧ s'.ctr = s.ctr ∧ s'.rc = s.rc := by
  obtain ⟨x, hx, hlt, hr, rfl⟩ := putObj_some h
  refine ⟨?_, rfl, rfl⟩
  simp only [Tr.get_set_fun]
  refine hR.set ho hown ?_ hi hoc ?_ hnew
  · rintro c cs e fz rfl; cases hrow
  · intro cs e fz c hh
    rcases hh with rfl | rfl <;> cases hr

theorem map_turned {μ : Mu} {w : World} {i : Info} {es : List (AV × AV × Nat)} {clock : Nat} {E : Array MapEntry} {O : Obj} (h : w.heap[i.blk]? = some O) (hE : EntsR μ es E.toList) :
    ObjR μ { w with heap := w.heap.setIfInBounds i.blk (.map E clock) } i (.map es clock) :=
  ⟨E, by simp [(Array.getElem?_eq_some_iff.1 h).1], hE⟩

theorem okTuple_rel {μ : Mu} {a : AV} {v : Value} {b : Bool} (ok : Bool) (h : VR μ a v) : VR μ (match ok with | true => .tuple [a, .bool b] | false => a) (if ok then .tuple #[v, .bool b] else v) := by
  cases ok with
  | true =>
    simp only [if_true, VR, VRs]
    exact ⟨_, rfl, v, [.bool b], by simp, h, .bool b, [], rfl, rfl, rfl⟩
  | false => simpa using h

theorem keyGuard_some {kk : KK} {k : AV} {s s' : St} {u : Unit} (h : keyGuard kk k s = some (u, s')) : keyEq kk k k = some true ∧ s' = s := by
  unfold keyGuard at h
  obtain ⟨h1, h2⟩ := DM.guard_some h
  refine ⟨?_, h2⟩
  split at h1
  · assumption
  · cases h1

theorem lookup_sim (hC : TypesOk P C) {t : Nat} {m k r : AV} {mv kv : Value} {ok : Bool} {μ : Mu} {s s' : St} {w : World} (hR : Rep base μ s.heap.get w) (hm : VR μ m mv) (hk : VR μ k kv) (h : lookupD C t m k ok s = some (r, s')) :
    s' = s ∧ ∃ v, (Instr.lookup t mv kv ok).run P w = .ok v w ∧ VR μ r v := by
  unfold lookupD at h
  simp only [DM.lift_bind] at h
  obtain ⟨⟨key, elem⟩, ht, kk, hkk, h⟩ := h
  obtain ⟨_, s1, h1, h4⟩ := DM.bind_some h
  obtain ⟨hself, rfl⟩ := keyGuard_some h1
  clear h h1
  simp only [DM.lift_bind] at h4
  obtain ⟨zero, hz, h⟩ := h4
  obtain ⟨z, hzr, hzv⟩ := zero_ok hC.toTyOk hz
  have hu := und_ok hC.toTyOk (mapTy?_some ht)
  have hkey := keyOk hC hkk hself hk
  cases m with
  | map o =>
    cases o with
    | none =>
      obtain ⟨rfl, rfl⟩ := DM.pure_some h
      simp only [VR] at hm
      subst hm
      refine ⟨rfl, _, ?_, okTuple_rel (b := false) ok (hzv μ)⟩
      have hf : ∀ w, (Instr.findKey key kv []).run P w = .ok none w := by
        intro w
        obtain ⟨r', h1, h2⟩ := hkey.find [] [] none rfl rfl
        cases r' with
        | none => exact h1 w
        | some x => exact h2.elim
      simp [Instr.lookup, run_underlying hu, hkey.check, hf, hzr]
    | some id =>
      simp only [VR] at hm
      obtain ⟨i, hi, rfl⟩ := hm
      simp only at h
      obtain ⟨⟨es, clock⟩, s2, h2, h3⟩ := DM.bind_some h
      obtain ⟨rfl, hg, i', E, hi', hE, hr⟩ := mapOf_sound hR h2
      rw [hi] at hi'; cases hi'
      simp only [DM.lift_bind] at h3
      obtain ⟨res, hres, h3⟩ := h3
      obtain ⟨r', hf, hfr⟩ := hkey.find es E.toList res hr hres
      have hget := run_getObj (P := P) hE (by simp)
      cases res with
      | none =>
        cases r' with
        | some x => exact hfr.elim
        | none =>
          obtain ⟨rfl, rfl⟩ := DM.pure_some h3
          refine ⟨rfl, _, ?_, okTuple_rel (b := false) ok (hzv μ)⟩
          simp [Instr.lookup, run_underlying hu, hget, hkey.check, hf, hzr]
      | some x =>
        obtain ⟨j, v, b⟩ := x
        cases r' with
        | none => exact hfr.elim
        | some y =>
          obtain ⟨j', v'⟩ := y
          obtain ⟨rfl, hv⟩ := hfr
          obtain ⟨rfl, rfl⟩ := DM.pure_some h3
          refine ⟨rfl, _, ?_, okTuple_rel (b := true) ok hv⟩
          simp [Instr.lookup, run_underlying hu, hget, hkey.check, hf]
  | _ => exact (DM.fail_some h).elim

theorem keyStays {old new : Value} (h : Instr.sameBits 10000 old new = true) (w : World) : (Instr.keyThatStays old new).run P w = .ok new w := by
  simp [Instr.keyThatStays, h]

theorem mapUpdate_sim (hC : TypesOk P C) {t : Nat} {m k v : AV} {mv kv vv : Value} {μ : Mu} {s s' : St} {w : World} {u : Unit} (hR : Rep base μ s.heap.get w) (hm : VR μ m mv) (hk : VR μ k kv) (hv : VR μ v vv) (h : mapUpdateD C t m k v s = some (u, s')) :
    ∃ w', (Instr.mapUpdate t mv kv vv).run P w = .ok () w' ∧ Rep base μ s'.heap.get w' ∧ s'.ctr = s.ctr ∧ s'.rc = s.rc := by
  unfold mapUpdateD at h
  cases m with
  | map o =>
    cases o with
    | none => exact (DM.fail_some (s := s) (r := (u, s')) h).elim
    | some id =>
      simp only [DM.lift_bind] at h
      obtain ⟨⟨key, elem⟩, ht, kk, hkk, h⟩ := h
      obtain ⟨_, s1, h1, h4⟩ := DM.bind_some h
      obtain ⟨hself, rfl⟩ := keyGuard_some h1
      clear h h1
      have hu := und_ok hC.toTyOk (mapTy?_some ht)
      have hkey := keyOk hC hkk hself hk
      simp only [VR] at hm
      obtain ⟨i, hi, rfl⟩ := hm
      obtain ⟨⟨es, clock⟩, s2, h2, h3⟩ := DM.bind_some h4
      obtain ⟨rfl, hg, i', E, hi', hE, hr⟩ := mapOf_sound hR h2
      rw [hi] at hi'; cases hi'
      simp only [DM.lift_bind] at h3
      obtain ⟨res, hres, h3⟩ := h3
      obtain ⟨r', hf, hfr⟩ := hkey.find es E.toList res hr hres
      have hget := run_getObj (P := P) hE (by simp)
      cases res with
      | none =>
        cases r' with
        | some x => exact hfr.elim
        | none =>
          obtain ⟨hR', hc, hrc⟩ := putObj_rep (O := .map (E.push { key := kv, val := vv, born := clock }) (clock + 1)) hR h3 hg trivial rfl hi (by simp)
            (map_turned hE (by simp only [Array.toList_push]; exact hr.append (by simp only [EntsR]; exact ⟨_, [], rfl, hk, hv, rfl, rfl⟩)))
          refine ⟨_, ?_, hR', hc, hrc⟩
          have hset := run_setObj (P := P) (o' := .map (E.push { key := kv, val := vv, born := clock }) (clock + 1)) hE (by simp)
          simp [Instr.mapUpdate, run_underlying hu, hget, hkey.check, hf, hset]
      | some x =>
        obtain ⟨j, v0, b⟩ := x
        cases r' with
        | none => exact hfr.elim
        | some y =>
          obtain ⟨j', v'⟩ := y
          obtain ⟨rfl, _⟩ := hfr
          obtain ⟨m, k', rfl, hem, heq⟩ := findD_some hres
          simp only [Nat.zero_add] at h3 hem hf ⊢
          obtain ⟨e, he, hke, hve, hbe⟩ := hr.get hem
          have hstay := keyStays (P := P) (hkey.same k' e.key hke heq)
          have heA : E[m]? = some e := by rw [← Array.getElem?_toList]; exact he
          obtain ⟨hR', hc, hrc⟩ := putObj_rep (O := .map (E.modify m fun e => { e with key := kv, val := vv }) clock) hR h3 hg trivial rfl hi (by simp)
            (map_turned hE (by
              rw [Array.toList_modify]
              refine hr.setAt fun e' he' => ?_
              rw [he] at he'; cases he'
              exact ⟨hk, hv, hbe⟩))
          refine ⟨_, ?_, hR', hc, hrc⟩
          have hset := run_setObj (P := P) (o' := .map (E.modify m fun e => { e with key := kv, val := vv }) clock) hE (by simp)
          simp [Instr.mapUpdate, run_underlying hu, hget, hkey.check, hf, heA, hstay, hset]
  | _ => exact (DM.fail_some (s := s) (r := (u, s')) h).elim

theorem goInt_nat (μ : Mu) (n : Nat) : VR μ (.int .i64 n) (goInt n) := goInt_rel μ n

theorem pair_rel {μ : Mu} {a b : AV} {v u : Value} (h : VR μ a v) (k : VR μ b u) : VR μ (.tuple [a, b]) (.tuple #[v, u]) := by
  simp only [VR, VRs]
  exact ⟨_, rfl, v, [u], by simp, h, u, [], rfl, k, rfl⟩

theorem mapEntry_sim (hC : TypesOk P C) {t : Nat} {m k r : AV} {mv kv : Value} {μ : Mu} {s s' : St} {w : World} (hR : Rep base μ s.heap.get w) (hm : VR μ m mv) (hk : VR μ k kv) (h : mapEntryD C t m k s = some (r, s')) :
    ∃ w' v, (Instr.mapEntry t mv kv).run P w = .ok v w' ∧ Rep base μ s'.heap.get w' ∧ s'.ctr = s.ctr ∧ s'.rc = s.rc ∧ VR μ r v := by
  unfold mapEntryD at h
  cases m with
  | map o =>
    cases o with
    | none => exact (DM.fail_some (s := s) (r := (r, s')) h).elim
    | some id =>
      simp only [DM.lift_bind] at h
      obtain ⟨⟨key, elem⟩, ht, kk, hkk, h⟩ := h
      obtain ⟨_, s1, h1, h4⟩ := DM.bind_some h
      obtain ⟨hself, rfl⟩ := keyGuard_some h1
      clear h h1
      have hu := und_ok hC.toTyOk (mapTy?_some ht)
      have hkey := keyOk hC hkk hself hk
      simp only [VR] at hm
      obtain ⟨i, hi, rfl⟩ := hm
      obtain ⟨⟨es, clock⟩, s2, h2, h3⟩ := DM.bind_some h4
      obtain ⟨rfl, hg, i', E, hi', hE, hr⟩ := mapOf_sound hR h2
      rw [hi] at hi'; cases hi'
      simp only [DM.lift_bind] at h3
      obtain ⟨res, hres, h3⟩ := h3
      obtain ⟨r', hf, hfr⟩ := hkey.find es E.toList res hr hres
      have hget := run_getObj (P := P) hE (by simp)
      cases res with
      | none =>
        cases r' with
        | some x => exact hfr.elim
        | none =>
          simp only [DM.lift_bind] at h3
          obtain ⟨zero, hz, h3⟩ := h3
          obtain ⟨z, hzr, hzv⟩ := zero_ok hC.toTyOk hz
          obtain ⟨_, s3, h5, h6⟩ := DM.bind_some h3
          obtain ⟨rfl, rfl⟩ := DM.pure_some h6
          obtain ⟨hR', hc, hrc⟩ := putObj_rep (O := .map (E.push { key := kv, val := z, born := clock }) (clock + 1)) hR h5 hg trivial rfl hi (by simp)
            (map_turned hE (by simp only [Array.toList_push]; exact hr.append (by simp only [EntsR]; exact ⟨_, [], rfl, hk, hzv μ, rfl, rfl⟩)))
          refine ⟨_, _, ?_, hR', hc, hrc, pair_rel (hzv μ) (goInt_rel μ clock)⟩
          have hset := run_setObj (P := P) (o' := .map (E.push { key := kv, val := z, born := clock }) (clock + 1)) hE (by simp)
          simp [Instr.mapEntry, run_underlying hu, hget, hkey.check, hf, hset, hzr]
      | some x =>
        obtain ⟨j, v0, b⟩ := x
        cases r' with
        | none => exact hfr.elim
        | some y =>
          obtain ⟨j', v'⟩ := y
          obtain ⟨rfl, hv0⟩ := hfr
          obtain ⟨m, k', rfl, hem, heq⟩ := findD_some hres
          obtain ⟨_, s3, h5, h6⟩ := DM.bind_some h3
          obtain ⟨rfl, rfl⟩ := DM.pure_some h6
          simp only [Nat.zero_add] at h5 hem hf ⊢
          obtain ⟨e, he, hke, hve, hbe⟩ := hr.get hem
          have hstay := keyStays (P := P) (hkey.same k' e.key hke heq)
          have heA : E[m]? = some e := by rw [← Array.getElem?_toList]; exact he
          obtain ⟨hR', hc, hrc⟩ := putObj_rep (O := .map (E.modify m fun e => { e with key := kv }) clock) hR h5 hg trivial rfl hi (by simp)
            (map_turned hE (by
              rw [Array.toList_modify]
              refine hr.setAt fun e' he' => ?_
              rw [he] at he'; cases he'
              exact ⟨hk, hve, hbe⟩))
          refine ⟨_, _, ?_, hR', hc, hrc, pair_rel hv0 (goInt_rel μ b)⟩
          have hset := run_setObj (P := P) (o' := .map (E.modify m fun e => { e with key := kv }) clock) hE (by simp)
          simp only at hbe
          simp [Instr.mapEntry, run_underlying hu, hget, hkey.check, hf, heA, hstay, hset, hbe]
  | _ => exact (DM.fail_some (s := s) (r := (r, s')) h).elim

theorem bornAt_some {b : Nat} : ∀ {es : List (AV × AV × Nat)} {i j : Nat} {k : AV}, bornAt b es i = some (j, k) → ∃ m v, j = i + m ∧ es[m]? = some (k, v, b) ∧ ∀ n x, n < m → es[n]? = some x → x.2.2 ≠ b
  | [], i, j, k, h => by cases h
  | (k', v', b') :: es, i, j, k, h => by
    unfold bornAt at h
    cases hq : Nat.beq b' b with
    | true =>
      rw [hq] at h
      cases h
      have hq := Nat.beq_true hq
      subst hq
      exact ⟨0, v', rfl, rfl, fun n x hn => by omega⟩
    | false =>
      rw [hq] at h
      obtain ⟨m, v, h1, h2, h3⟩ := bornAt_some h
      refine ⟨m + 1, v, by omega, h2, fun n x hn hx => ?_⟩
      cases n with
      | zero => simp at hx; subst hx; exact Nat.beq_false hq
      | succ n => exact h3 n x (by omega) (by simpa using hx)

theorem entryStore_sim {t : Nat} {m k v : AV} {mv kv vv : Value} {μ : Mu} {s s' : St} {w : World} {u : Unit} (hR : Rep base μ s.heap.get w) (hm : VR μ m mv) (hk : VR μ k kv) (hv : VR μ v vv) (h : entryStoreD m k v s = some (u, s')) :
    ∃ w', (Instr.entryStore t mv kv vv).run P w = .ok () w' ∧ Rep base μ s'.heap.get w' ∧ s'.ctr = s.ctr ∧ s'.rc = s.rc := by
  unfold entryStoreD at h
  cases m with
  | map o =>
    cases o with
    | none => exact (DM.fail_some (s := s) (r := (u, s')) h).elim
    | some id =>
      simp only [DM.lift_bind] at h
      obtain ⟨b, hb, h⟩ := h
      obtain ⟨kk, _, rfl⟩ := natOf_some hb hk
      simp only [VR] at hm
      obtain ⟨i, hi, rfl⟩ := hm
      obtain ⟨⟨es, clock⟩, s2, h2, h3⟩ := DM.bind_some h
      obtain ⟨rfl, hg, i', E, hi', hE, hr⟩ := mapOf_sound hR h2
      rw [hi] at hi'; cases hi'
      simp only [DM.lift_bind] at h3
      obtain ⟨⟨j, k'⟩, hj, h3⟩ := h3
      obtain ⟨m, v0, rfl, hem, hmin⟩ := bornAt_some hj
      simp only [Nat.zero_add] at h3 hem
      obtain ⟨e, he, hke, hve, hbe⟩ := hr.get hem
      have heA : E[m]? = some e := by rw [← Array.getElem?_toList]; exact he
      have hget := run_getObj (P := P) hE (by simp)
      have hidx : E.findIdx? (fun e => (e.born : Int) == (b : Int)) = some m := by
        obtain ⟨hlt, hee⟩ := Array.getElem?_eq_some_iff.1 heA
        rw [Array.findIdx?_eq_some_iff_getElem]
        refine ⟨hlt, ?_, fun n hn => ?_⟩
        · rw [hee]; simp only at hbe; simp only [beq_iff_eq]; omega
        · have hnl : n < es.length := by
            have := (List.getElem?_eq_some_iff.1 hem).1; omega
          obtain ⟨e', he', _, _, hb'⟩ := hr.get (List.getElem?_eq_getElem hnl)
          have hne := hmin n _ hn (List.getElem?_eq_getElem hnl)
          have : E[n]? = some e' := by rw [← Array.getElem?_toList]; exact he'
          obtain ⟨hlt', hee'⟩ := Array.getElem?_eq_some_iff.1 this
          rw [hee']
          simp
          omega
      obtain ⟨hR', hc, hrc⟩ := putObj_rep (O := .map (E.modify m fun e => { e with val := vv }) clock) hR h3 hg trivial rfl hi (by simp)
        (map_turned hE (by
          rw [Array.toList_modify]
          refine hr.setAt fun e' he' => ?_
          rw [he] at he'; cases he'
          exact ⟨hke, hv, hbe⟩))
      refine ⟨_, ?_, hR', hc, hrc⟩
      have hset := run_setObj (P := P) (o' := .map (E.modify m fun e => { e with val := vv }) clock) hE (by simp)
      simp [Instr.entryStore, hget, asInt, asIntOf, hidx, hset]
  | _ => exact (DM.fail_some (s := s) (r := (u, s')) h).elim

theorem delete_sim (hC : TypesOk P C) {ts : Array TypeId} {t ty : Nat} {m k : AV} {mv kv : Value} {μ : Mu} {s s' : St} {w : World} {u : Unit} (hts : ts[0]? = some t) (hR : Rep base μ s.heap.get w) (hm : VR μ m mv) (hk : VR μ k kv) (h : deleteD C t m k s = some (u, s')) :
    OpOut P base μ s s' (Builtin.delete_ ts ty #[mv, kv]) w undefA := by
  unfold deleteD at h
  simp only [DM.lift_bind] at h
  obtain ⟨⟨key, elem⟩, ht, kk, hkk, h⟩ := h
  obtain ⟨_, s1, h1, h4⟩ := DM.bind_some h
  obtain ⟨hself, rfl⟩ := keyGuard_some h1
  clear h h1
  have hu := und_ok hC.toTyOk (mapTy?_some ht)
  have hkey := keyOk hC hkk hself hk
  cases m with
  | map o =>
    cases o with
    | none =>
      obtain ⟨_, rfl⟩ := DM.pure_some h4
      simp only [VR] at hm
      subst hm
      exact ⟨μ, w, .tuple #[], by simp [Builtin.delete_, hts, run_underlying hu, hkey.check], hR, Ext'.refl _ _ _, by simp [undefA, VR, VRs], rfl⟩
    | some id =>
      simp only [VR] at hm
      obtain ⟨i, hi, rfl⟩ := hm
      simp only at h4
      obtain ⟨⟨es, clock⟩, s2, h2, h3⟩ := DM.bind_some h4
      obtain ⟨rfl, hg, i', E, hi', hE, hr⟩ := mapOf_sound hR h2
      rw [hi] at hi'; cases hi'
      simp only [DM.lift_bind] at h3
      obtain ⟨res, hres, h3⟩ := h3
      obtain ⟨r', hf, hfr⟩ := hkey.find es E.toList res hr hres
      have hget := run_getObj (P := P) hE (by simp)
      cases res with
      | none =>
        cases r' with
        | some x => exact hfr.elim
        | none =>
          obtain ⟨_, rfl⟩ := DM.pure_some h3
          have hset := run_setObj (P := P) (o' := .map E clock) hE (by simp)
          rw [setHeap_self hE] at hset
          exact ⟨μ, w, .tuple #[], by simp [Builtin.delete_, hts, run_underlying hu, hget, hkey.check, hf, hset], hR, Ext'.refl _ _ _, by simp [undefA, VR, VRs], rfl⟩
      | some x =>
        obtain ⟨j, v0, b⟩ := x
        cases r' with
        | none => exact hfr.elim
        | some y =>
          obtain ⟨j', v'⟩ := y
          obtain ⟨rfl, hv0⟩ := hfr
          obtain ⟨hR', hc, hrc⟩ := putObj_rep (O := .map (E.eraseIdxIfInBounds j) clock) hR h3 hg trivial rfl hi (by simp)
            (map_turned hE (by rw [Array.toList_eraseIdxIfInBounds]; exact hr.eraseAt))
          have hset := run_setObj (P := P) (o' := .map (E.eraseIdxIfInBounds j) clock) hE (by simp)
          exact ⟨μ, _, .tuple #[], by simp [Builtin.delete_, hts, run_underlying hu, hget, hkey.check, hf, hset], hR', Ext'.refl _ _ _, by simp [undefA, VR, VRs], hrc⟩
  | _ => exact (DM.fail_some h4).elim

/-! ### Walks -/

/-- A new object that is no row. -/
theorem newObj_sim {μ : Mu} {s s' : St} {w : World} {o : AObj} {id : Nat} {O : Obj} (hR : Rep base μ s.heap.get w) (h : new o s = some (id, s')) (hF : Fresh μ s.heap.get s.ctr s'.ctr) (hoc : o ≠ .chain) (hrow : isRow (some o) = false)
    (hobj : ∀ i : Info, i.blk = w.heap.size → i.off = 0 → ∀ ν, MuLe μ ν → ObjR ν (w.alloc O) i o) :
    ∃ i : Info, i.blk = w.heap.size ∧ i.off = 0 ∧ id = s.ctr ∧ Rep base (upd μ id i) s'.heap.get (w.alloc O) ∧ Ext' μ (upd μ id i) s.ctr s'.ctr ∧ s'.rc = s.rc ∧ upd μ id i id = some i := by
  simp only [new, St.born_eq, Option.some.injEq, Prod.mk.injEq] at h
  obtain ⟨rfl, rfl⟩ := h
  obtain ⟨hμ, hg⟩ := hF s.ctr (Nat.le_refl _) (by simp)
  let i : Info := ⟨w.heap.size, 0, 0⟩
  refine ⟨i, rfl, rfl, rfl, ?_, upd_ext i hμ, rfl, upd_self _ _ _⟩
  have := hR.new hμ hg hoc (fun cs e fz c hh => by rcases hh with rfl | rfl <;> cases hrow) (O := O) (i := i) rfl (hobj i rfl rfl _ (upd_le i hμ))
  simp only [Tr.get_set_fun]
  exact this

theorem makeMap_sim (hC : TyOk P C) {t : Nat} {rv : Option Value} {r : AV} {μ : Mu} {s s' : St} {w : World} (hR : Rep base μ s.heap.get w) (hrv : ∀ v, rv = some v → ∃ k n, v = .int k n) (h : makeMapD C t s = some (r, s')) (hF : Fresh μ s.heap.get s.ctr s'.ctr) :
    OpOut P base μ s s' (Instr.makeMap t rv) w r := by
  unfold makeMapD at h
  simp only [DM.lift_bind] at h
  obtain ⟨⟨k, e⟩, ht, h⟩ := h
  have hu := und_ok hC (mapTy?_some ht)
  obtain ⟨id, s1, h1, h2⟩ := DM.bind_some h
  obtain ⟨rfl, rfl⟩ := DM.pure_some h2
  obtain ⟨i, hb, ho, rfl, hR', hE, hrc, hi⟩ := newObj_sim (O := .map #[] 0) hR h1 hF (by simp) rfl (fun i hi hz ν hν => ⟨#[], by rw [hi]; show (w.heap.push _)[w.heap.size]? = _; simp, by simp [EntsR]⟩)
  refine ⟨_, _, .map (some w.heap.size), ?_, hR', hE, ?_, hrc⟩
  · cases rv with
    | none => simp [Instr.makeMap, run_newObj']
    | some v =>
      obtain ⟨k, n, rfl⟩ := hrv v rfl
      simp [Instr.makeMap, run_underlying hu, asInt, asIntOf, run_newObj']
  · simp only [VR]
    exact ⟨i, hi, by rw [hb]⟩

theorem mapsClone_sim {t id : Nat} {v : Value} {r : Res} {μ : Mu} {s s' : St} {w : World} (hR : Rep base μ s.heap.get w) (hv : VR μ (.iface t (.map (some id))) v) (h : extD .mapsClone [.iface t (.map (some id))] s = some (r, s')) (hF : Fresh μ s.heap.get s.ctr s'.ctr) :
    ∃ a, r = .ret a ∧ OpOut P base μ s s' (Extern.MapsClone.clone #[v]) w a := by
  simp only [extD] at h
  obtain ⟨⟨es, clock⟩, s1, h1, h2⟩ := DM.bind_some h
  obtain ⟨rfl, hg, i, E, hi, hE, hr⟩ := mapOf_sound hR h1
  obtain ⟨id', s2, h3, h4⟩ := DM.bind_some h2
  obtain ⟨rfl, rfl⟩ := DM.pure_some h4
  refine ⟨_, rfl, ?_⟩
  simp only [VR] at hv
  obtain ⟨x, rfl, j, hj, rfl⟩ := hv
  rw [hi] at hj; cases hj
  obtain ⟨i', hb, ho, rfl, hR', hEx, hrc, hi'⟩ := newObj_sim (O := .map E clock) hR h3 hF (by simp) rfl (fun i hi hz ν hν => ⟨E, by rw [hi]; show (w.heap.push _)[w.heap.size]? = _; simp, hr.mono hν⟩)
  have hget := run_getObj (P := P) hE (by simp)
  refine ⟨_, _, .iface t (.map (some w.heap.size)), ?_, hR', hEx, ?_, hrc⟩
  · show (do
      let .map entries clock ← getObj i.blk | stuck "maps.clone: a map expected"
      pure (Value.iface t (.map (some (← newObj (.map entries clock))))) : Sem Value).run P w = _
    simp [hget, run_newObj']
  · simp only [VR]
    exact ⟨_, rfl, i', hi', by rw [hb]⟩

theorem range_sim (hC : TyOk P C) {t : Nat} {x r : AV} {xv : Value} {μ : Mu} {s s' : St} {w : World} (hR : Rep base μ s.heap.get w) (hx : VR μ x xv) (h : rangeD C t x s = some (r, s')) (hF : Fresh μ s.heap.get s.ctr s'.ctr) :
    OpOut P base μ s s' (Instr.range t xv) w r := by
  unfold rangeD at h
  cases x with
  | str b =>
    simp only [DM.guard_bind] at h
    obtain ⟨ht, h⟩ := h
    have hu := und_ok hC (isStr_some ht)
    obtain ⟨id, s1, h1, h2⟩ := DM.bind_some h
    obtain ⟨rfl, rfl⟩ := DM.pure_some h2
    simp only [VR] at hx
    subst hx
    obtain ⟨i, hb, ho, rfl, hR', hE, hrc, hi⟩ := newObj_sim (O := .stringIter ⟨b.toArray⟩ 0) hR h1 hF (by simp) rfl (fun i hi hz ν hν => ⟨hz, by rw [hi]; show (w.heap.push _)[w.heap.size]? = _; simp⟩)
    refine ⟨_, _, .pointer (some ⟨w.heap.size, 0, none⟩), by simp [Instr.range, run_underlying hu, run_newObj'], hR', hE, ?_, hrc⟩
    simp only [VR]
    exact ⟨i, hi, by rw [hb, ho]⟩
  | map o =>
    cases o with
    | none =>
      simp only [DM.lift_bind] at h
      obtain ⟨⟨k, e⟩, ht, h⟩ := h
      have hu := und_ok hC (mapTy?_some ht)
      obtain ⟨id, s1, h1, h2⟩ := DM.bind_some h
      obtain ⟨rfl, rfl⟩ := DM.pure_some h2
      simp only [VR] at hx
      subst hx
      obtain ⟨i, hb, ho, rfl, hR', hE, hrc, hi⟩ := newObj_sim (O := .mapIter none 0 #[] 0) hR h1 hF (by simp) rfl (fun i hi hz ν hν => ⟨hz, none, by rw [hi]; show (w.heap.push _)[w.heap.size]? = _; simp, by simp only [VR]⟩)
      refine ⟨_, _, .pointer (some ⟨w.heap.size, 0, none⟩), by simp [Instr.range, run_underlying hu, run_newObj'], hR', hE, ?_, hrc⟩
      simp only [VR]
      exact ⟨i, hi, by rw [hb, ho]⟩
    | some m =>
      simp only [DM.lift_bind] at h
      obtain ⟨⟨k, e⟩, ht, h⟩ := h
      have hu := und_ok hC (mapTy?_some ht)
      obtain ⟨⟨es, clock⟩, s0, h0, h⟩ := DM.bind_some h
      obtain ⟨id, s1, h1, h2⟩ := DM.bind_some h
      obtain ⟨rfl, rfl⟩ := DM.pure_some h2
      obtain ⟨rfl, hg, j, E, hj, hE0, hr⟩ := mapOf_sound hR h0
      have hx' := hx
      simp only [VR] at hx
      obtain ⟨j', hj', rfl⟩ := hx
      rw [hj] at hj'; cases hj'
      have hget := run_getObj (P := P) hE0 (by simp)
      obtain ⟨i, hb, ho, rfl, hR', hE, hrc, hi⟩ := newObj_sim (O := .mapIter (some j.blk) clock #[] clock) hR h1 hF (by simp) rfl (fun i hi hz ν hν => ⟨hz, some j.blk, by rw [hi]; show (w.heap.push _)[w.heap.size]? = _; simp, VR.mono hν _ _ hx'⟩)
      refine ⟨_, _, .pointer (some ⟨w.heap.size, 0, none⟩), by simp [Instr.range, run_underlying hu, hget, run_newObj'], hR', hE, ?_, hrc⟩
      simp only [VR]
      exact ⟨i, hi, by rw [hb, ho]⟩
  | _ => exact (DM.fail_some (s := s) (r := (r, s')) h).elim

theorem iter_turned {μ : Mu} {w : World} {i : Info} {O O' : Obj} (h : w.heap[i.blk]? = some O) : ({ w with heap := w.heap.setIfInBounds i.blk O' } : World).heap[i.blk]? = some O' := by
  simp [(Array.getElem?_eq_some_iff.1 h).1]

theorem EntsR.all {μ : Mu} {p : Nat → Bool} : ∀ {es : List (AV × AV × Nat)} {E : List MapEntry}, EntsR μ es E → (es.all fun e => p e.2.2) = E.all fun e => p e.born
  | [], E, h => by simp only [EntsR] at h; subst h; rfl
  | (k, v, b) :: es, E, h => by
    simp only [EntsR] at h
    obtain ⟨e, l', rfl, h1, h2, h3, h4⟩ := h
    simp [EntsR.all h4, h3]

theorem EntsR.filter {μ : Mu} {p : Nat → Bool} : ∀ {es : List (AV × AV × Nat)} {E : List MapEntry}, EntsR μ es E → EntsR μ (es.filter fun e => p e.2.2) (E.filter fun e => p e.born)
  | [], E, h => by simp only [EntsR] at h; subst h; simp [EntsR]
  | (k, v, b) :: es, E, h => by
    simp only [EntsR] at h
    obtain ⟨e, l', rfl, h1, h2, h3, h4⟩ := h
    rw [List.filter_cons, List.filter_cons, h3]
    simp only
    split
    · simp only [EntsR]; exact ⟨e, _, rfl, h1, h2, h3, h4.filter⟩
    · exact h4.filter

theorem triple_rel {μ : Mu} {a b c : AV} {v u x : Value} (h : VR μ a v) (k : VR μ b u) (l : VR μ c x) : VR μ (.tuple [a, b, c]) (.tuple #[v, u, x]) := by
  simp only [VR, VRs]
  exact ⟨_, rfl, v, [u, x], by simp, h, u, [x], rfl, k, x, [], rfl, l, rfl⟩

theorem over_rel (μ : Mu) : VR μ (.tuple [.bool false]) (.tuple #[.bool false]) := by
  simp only [VR, VRs]
  exact ⟨_, rfl, .bool false, [], by simp, rfl, rfl⟩

theorem next_sim {ty : Nat} {it r : AV} {iv : Value} {b : Bool} {μ : Mu} {s s' : St} {w : World} (hR : Rep base μ s.heap.get w) (hi : VR μ it iv) (h : nextD it b s = some (r, s')) :
    ∃ w' v, (Instr.next iv b ty).run P w = .ok v w' ∧ Rep base μ s'.heap.get w' ∧ s'.ctr = s.ctr ∧ s'.rc = s.rc ∧ VR μ r v := by
  unfold nextD at h
  split at h
  · rename_i id
    obtain ⟨o, s1, h1, h2⟩ := DM.bind_some h
    obtain ⟨rfl, hg, hrow⟩ := objD_sound hR h1
    simp only [VR] at hi
    obtain ⟨i, hi, rfl⟩ := hi
    cases o with
    | strIter l pos =>
      simp only [DM.guard_bind] at h2
      obtain ⟨rfl, h2⟩ := h2
      obtain ⟨i', hi', hz, hO⟩ := hR.obj id _ hg trivial (by simp)
      rw [hi] at hi'; cases hi'
      have hget := run_getObj (P := P) hO (by simp)
      have hsz : ByteArray.size ⟨l.toArray⟩ = l.length := by simp [ByteArray.size]
      unfold nextStrD at h2
      cases hc : l[pos]? with
      | none =>
        rw [hc] at h2
        obtain ⟨rfl, rfl⟩ := DM.pure_some h2
        have hge : ¬ pos < l.length := by rw [List.getElem?_eq_none_iff] at hc; omega
        refine ⟨w, _, ?_, hR, rfl, rfl, over_rel μ⟩
        simp only [hz, Nat.add_zero]
        simp [Instr.next, hget, hsz, hge]
      | some c =>
        rw [hc] at h2
        simp only [DM.guard_bind] at h2
        obtain ⟨hlt, h2⟩ := h2
        have hlt := of_blt hlt
        obtain ⟨_, s2, h3, h4⟩ := DM.bind_some h2
        obtain ⟨rfl, rfl⟩ := DM.pure_some h4
        obtain ⟨hpl, hpc⟩ := List.getElem?_eq_some_iff.1 hc
        have hps : pos < ByteArray.size ⟨l.toArray⟩ := by omega
        have hgc : (⟨l.toArray⟩ : ByteArray)[pos]'hps = c := hpc
        have hdec := decode_ascii ⟨l.toArray⟩ pos hps (by rw [hgc]; exact hlt)
        rw [hgc] at hdec
        obtain ⟨hR', hct, hrc⟩ := putObj_rep (O := .stringIter ⟨l.toArray⟩ (pos + 1)) hR h3 hg trivial rfl hi (by simp) ⟨hz, iter_turned (μ := μ) hO⟩
        have hset := run_setObj (P := P) (o' := .stringIter ⟨l.toArray⟩ (pos + 1)) hO (by simp)
        refine ⟨_, .tuple #[.bool true, goInt pos, .int .i32 c.toNat], ?_, hR', hct, hrc, triple_rel (by simp only [VR]) (goInt_rel μ pos) (by simp only [VR])⟩
        simp only [hz, Nat.add_zero]
        simp [Instr.next, hget, hsz, hpl, hdec, hset]
    | mapIter m since seen last =>
      obtain ⟨i', hi', hz, m', hO, hm⟩ := hR.obj id _ hg trivial (by simp)
      rw [hi] at hi'; cases hi'
      have hget := run_getObj (P := P) hO (by simp)
      cases m with
      | none =>
        simp only [DM.guard_bind, DM.pure_iff] at h2
        obtain ⟨hb, rfl, rfl⟩ := h2
        have hb : b = false := by simpa using hb
        subst hb
        simp only [VR] at hm
        cases hm
        refine ⟨w, _, ?_, hR, rfl, rfl, over_rel μ⟩
        simp only [hz, Nat.add_zero]
        simp [Instr.next, hget]
      | some m =>
        simp only [DM.guard_bind] at h2
        obtain ⟨hb, h2⟩ := h2
        have hb : b = false := by simpa using hb
        subst hb
        simp only [VR] at hm
        obtain ⟨j, hj, hmj⟩ := hm
        cases hmj
        unfold nextMapD at h2
        obtain ⟨⟨es, clock⟩, s2, h3, h4⟩ := DM.bind_some h2
        obtain ⟨rfl, hgm, j', E, hj', hE, hr⟩ := mapOf_sound hR h3
        rw [hj] at hj'; cases hj'
        simp only [DM.guard_bind] at h4
        obtain ⟨hgd, h4⟩ := h4
        have hgetm := run_getObj (P := P) hE (by simp)
        have hlen := hr.length
        simp only [Array.length_toList] at hlen
        have hunsup : (!(seen.toArray.isEmpty) && !(E.isEmpty) && E.all (fun e => decide (e.born ≥ last))) = false := by
          have hall := EntsR.all (p := fun b => Nat.ble last b) hr
          simp only [Bool.or_eq_true, Bool.not_eq_true'] at hgd
          have e1 : E.all (fun e => decide (e.born ≥ last)) = es.all (fun e => Nat.ble last e.2.2) := by
            rw [hall, ← Array.all_toList]
            congr 1
            funext e
            cases hh : Nat.ble last e.born with
            | true => simp [of_ble hh]
            | false => simp [not_ble hh]
          rw [e1]
          rcases hgd with (hgd | hgd) | hgd
          · simp at hgd; simp [hgd]
          · have : es = [] := by simpa using hgd
            subst this
            have : E = #[] := Array.eq_empty_of_size_eq_zero (by simpa using hlen.symm)
            simp [this]
          · rw [hgd]; simp
        have hleft := EntsR.filter (p := fun b => !(seen.any (Nat.beq b))) hr
        have hcont : ∀ x : Nat, seen.toArray.contains x = seen.any (Nat.beq x) := by
          intro x
          rw [List.contains_toArray, List.contains_eq_any_beq]
          congr 1
          funext y
          cases hb : Nat.beq x y with
          | true => rw [Nat.beq_true hb]; simp
          | false => simpa using Nat.beq_false hb
        have hleftE : E.filter (fun e => !(seen.toArray.contains e.born)) = (E.toList.filter fun e => !(seen.any (Nat.beq e.born))).toArray := by
          apply Array.ext'
          rw [Array.toList_filter]
          simp only [hcont]
        cases hl : es.filter (fun e => !(seen.any (Nat.beq e.2.2))) with
        | nil =>
          rw [hl] at h4
          obtain ⟨rfl, rfl⟩ := DM.pure_some h4
          rw [hl] at hleft
          simp only [EntsR] at hleft
          rw [hleft] at hleftE
          refine ⟨w, _, ?_, hR, rfl, rfl, over_rel μ⟩
          simp only [hz, Nat.add_zero]
          simp only [Instr.next, Sem.run_bind, hget, Result.andThen_ok, hgetm, hunsup, Bool.false_eq_true, if_false, hleftE]
          simp [Question.forced]
        | cons x rest =>
          rw [hl] at h4 hleft
          obtain ⟨k, v, born⟩ := x
          cases rest with
          | cons y rest => exact (DM.fail_some h4).elim
          | nil =>
            simp only at h4
            cases hbs : Nat.blt born since with
            | false => rw [hbs] at h4; exact (DM.fail_some h4).elim
            | true =>
              rw [hbs] at h4
              have hbs := of_blt hbs
              obtain ⟨_, s4, h5, h6⟩ := DM.bind_some h4
              obtain ⟨rfl, rfl⟩ := DM.pure_some h6
              simp only [EntsR] at hleft
              obtain ⟨e, l', he, hk, hv, hbe, rfl⟩ := hleft
              subst hbe
              rw [he] at hleftE
              obtain ⟨hR', hct, hrc⟩ := putObj_rep (O := .mapIter (some j.blk) since (seen ++ [e.born]).toArray clock) hR h5 hg trivial rfl hi (by simp) ⟨hz, some j.blk, iter_turned (μ := μ) hO, by simp only [VR]; exact ⟨j, hj, rfl⟩⟩
              have hset := run_setObj (P := P) (o' := .mapIter (some j.blk) since (seen ++ [e.born]).toArray clock) hO (by simp)
              refine ⟨_, .tuple #[.bool true, e.key, e.val], ?_, hR', hct, hrc, triple_rel (by simp only [VR]) hk hv⟩
              have hpush : seen.toArray.push e.born = (seen ++ [e.born]).toArray := by simp
              have hlt : e.born < since := by omega
              have hnge : ¬ (since ≤ e.born) := by omega
              simp only [hz, Nat.add_zero]
              simp only [Instr.next, Sem.run_bind, hget, Result.andThen_ok, hgetm, hunsup, Bool.false_eq_true, if_false, hleftE]
              simp [Question.forced, hlt, hnge, hpush, hset]
    | _ => exact (DM.fail_some h2).elim
  · exact (DM.fail_some h).elim

theorem lastD_back : ∀ {l : List Nat} {x : Nat}, lastD l = some x → l.getLast? = some x
  | [], x, h => by cases h
  | [a], x, h => by simpa [lastD] using h
  | a :: b :: l, x, h => by
    simp only [lastD] at h
    rw [List.getLast?_cons_cons]
    exact lastD_back h

theorem find_ents {μ : Mu} {b : Nat} : ∀ {es : List (AV × AV × Nat)} {E : List MapEntry} {x : AV × AV × Nat}, EntsR μ es E → es.find? (fun e => Nat.beq e.2.2 b) = some x → ∃ e, E.find? (fun e => e.born == b) = some e ∧ VR μ x.1 e.key ∧ VR μ x.2.1 e.val
  | [], E, x, h, hx => by simp at hx
  | (k, v, born) :: es, E, x, h, hx => by
    simp only [EntsR] at h
    obtain ⟨e, l', rfl, h1, h2, h3, h4⟩ := h
    rw [List.find?_cons] at hx
    rw [List.find?_cons]
    cases hb : Nat.beq born b with
    | true =>
      simp only [hb] at hx
      cases hx
      have := Nat.beq_true hb
      have hbb : (e.born == b) = true := by simp [h3, this]
      rw [hbb]
      exact ⟨e, rfl, h1, h2⟩
    | false =>
      simp only [hb] at hx
      have := Nat.beq_false hb
      have hbb : (e.born == b) = false := by simp [h3, this]
      rw [hbb]
      exact find_ents h4 hx

theorem entry_sim {it r : AV} {iv : Value} {μ : Mu} {s s' : St} {w : World} (hR : Rep base μ s.heap.get w) (hi : VR μ it iv) (h : entryD it s = some (r, s')) : s' = s ∧ ∃ v, (Instr.entry iv).run P w = .ok v w ∧ VR μ r v := by
  unfold entryD at h
  split at h
  · rename_i id
    obtain ⟨o, s1, h1, h2⟩ := DM.bind_some h
    obtain ⟨rfl, hg, hrow⟩ := objD_sound hR h1
    simp only [VR] at hi
    obtain ⟨i, hi, rfl⟩ := hi
    cases o with
    | mapIter m since seen stepped =>
      cases m with
      | none => exact (DM.fail_some h2).elim
      | some m =>
        obtain ⟨i', hi', hz, m', hO, hm⟩ := hR.obj id _ hg trivial (by simp)
        rw [hi] at hi'; cases hi'
        have hget := run_getObj (P := P) hO (by simp)
        simp only [VR] at hm
        obtain ⟨j, hj, hmj⟩ := hm
        cases hmj
        simp only [DM.lift_bind] at h2
        obtain ⟨stamp, hst, h2⟩ := h2
        obtain ⟨⟨es, clock⟩, s2, h3, h4⟩ := DM.bind_some h2
        obtain ⟨rfl, hgm, j', E, hj', hE, hr⟩ := mapOf_sound hR h3
        rw [hj] at hj'; cases hj'
        have hgetm := run_getObj (P := P) hE (by simp)
        simp only [DM.guard_bind, DM.lift_bind, DM.pure_iff] at h4
        obtain ⟨hck, x, hx, rfl, rfl⟩ := h4
        have hck := Nat.beq_true hck
        subst hck
        obtain ⟨e, he, hk, hv⟩ := find_ents hr hx
        have hback : seen.toArray.back? = some stamp := by rw [List.back?_toArray]; exact lastD_back hst
        refine ⟨rfl, .tuple #[e.key, e.val], ?_, pair_rel hk hv⟩
        have heA : E.find? (fun e => e.born == stamp) = some e := by rw [← Array.find?_toList]; exact he
        simp only [hz, Nat.add_zero]
        simp [Instr.entry, hget, hback, hgetm, heA]
    | _ => exact (DM.fail_some h2).elim
  · exact (DM.fail_some h).elim

end Pd
