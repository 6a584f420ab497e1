/-
  The evaluator's operations and the model's: append, copy, clear.
-/
import Derived.Test.YteaddglfdjnbdaaGreatDoorPdOps3
set_option linter.unusedVariables false
set_option linter.unusedSimpArgs false
namespace Pd
open Go
variable {P : Program} {C : Ctx} {base : World}

theorem bytes_rel {μ : Mu} : ∀ (l : List UInt8), VRs μ (l.map fun b => .int .u8 b.toNat) (l.map fun b => Value.int .u8 b.toNat)
  | [] => rfl
  | b :: l => ⟨_, _, rfl, by simp only [VR], bytes_rel l⟩

/-- A row's first cells. -/
theorem sliceCells_sim {sz n : Nat} {x : AV} {xv : Value} {μ : Mu} {s s' : St} {w : World} {cs : List AV} (hR : Rep base μ s.heap.get w) (hx : VR μ x xv) (h : sliceCells sz n x s = some (cs, s')) :
    s' = s ∧ ∃ xs, VRs μ cs xs ∧ ∀ w', w'.heap = w.heap → (Builtin.firstCells sz n xv).run P w' = .ok xs.toArray w' := by
  cases x with
  | nils =>
    simp only [sliceCells, DM.pure_iff] at h
    obtain ⟨rfl, rfl⟩ := h
    simp only [VR] at hx; subst hx
    exact ⟨rfl, [], rfl, fun w' _ => by simp [Builtin.firstCells]⟩
  | str b =>
    simp only [sliceCells, DM.pure_iff] at h
    obtain ⟨rfl, rfl⟩ := h
    simp only [VR] at hx; subst hx
    refine ⟨rfl, _, bytes_rel (b.take n), fun w' _ => ?_⟩
    simp only [Builtin.firstCells, Sem.run_pure]
    congr 1
    apply Array.ext'
    simp [ByteArray.data_extract, List.map_take]
  | slice id off len c =>
    simp only [VR] at hx
    obtain ⟨i, ad, hi, rfl, hle, had⟩ := hx
    simp only [sliceCells] at h
    cases h0 : Nat.beq (n * sz) 0 with
    | true =>
      rw [h0] at h
      obtain ⟨rfl, rfl⟩ := DM.pure_some h
      have h0 := Nat.beq_true h0
      refine ⟨rfl, [], rfl, fun w' _ => ?_⟩
      simp only [Builtin.firstCells, h0]
      exact run_loadCells_list (P := P) w' ad [] (by simp)
    | false =>
      rw [h0] at h
      simp only [DM.guard_bind] at h
      obtain ⟨hg, h⟩ := h
      have hg := of_ble hg
      have h0 := Nat.beq_false h0
      have hn : n ≠ 0 := by rintro rfl; simp at h0
      obtain ⟨rfl, i', X, e, fr, xs, hi', hX, hl, hvr, _, hxk⟩ := rdN_sound hR h
      rw [hi] at hi'; cases hi'
      refine ⟨rfl, xs, hvr, fun w' hw => ?_⟩
      rw [had (by omega)]
      simp only [Builtin.firstCells]
      rw [← hl]
      exact run_loadCells_row (hw ▸ hX) hxk
  | _ => exact (DM.fail_some (s := s) (r := (cs, s')) h).elim

/-- What comes by append: how many elements, and their cells. -/
def Comes (P : Program) (i : TypeInfo) (elem tx : TypeId) (x : Value) (n : Nat) (news : List Value) (w : World) : Prop :=
  (∃ d, P.underlying tx = some d ∧ (∀ k, d ≠ .int k) ∧ (∀ w', (Builtin.lenOf x).run P w' = .ok n w') ∧ ∀ w', w'.heap = w.heap → (Builtin.firstCells i.size n x).run P w' = .ok news.toArray w') ∨
  (∃ k k' z, P.underlying tx = some (.int k) ∧ x = .int k' n ∧ n ≤ 1073741824 ∧ i.bytes ≤ 1024 ∧ (∀ w, (zeroValue elem).run P w = .ok z w) ∧ z.cells.size = i.size ∧ news = (Builtin.zeroCells z.cells n).toList)

theorem lenD_some {μ : Mu} {x : AV} {v : Value} {n : Nat} (h : lenD x = some n) (hv : VR μ x v) (w : World) : (Builtin.lenOf v).run P w = .ok n w := by
  cases x with
  | nils => simp only [lenD, Option.some.injEq] at h; subst h; simp only [VR] at hv; subst hv; rfl
  | slice id off len c => simp only [lenD, Option.some.injEq] at h; subst h; simp only [VR] at hv; obtain ⟨i, a, _, rfl, _⟩ := hv; rfl
  | str s => simp only [lenD, Option.some.injEq] at h; subst h; simp only [VR] at hv; subst hv; simp [Builtin.lenOf, ByteArray.size]
  | _ => cases h

theorem zeroCells_rel {μ : Mu} {za : List AV} {z : Array Value} (h : VRs μ za z.toList) (n : Nat) : VRs μ (rep za n) (Builtin.zeroCells z n).toList := by
  unfold Builtin.zeroCells
  have := h.length
  simp only [Array.length_toList] at this
  exact rep_rel h n _ (by rw [this])

theorem comes_sim (hC : TyOk P C) {i : TypeInfo} {elem tx m : Nat} {x : AV} {xv : Value} {μ : Mu} {s s' : St} {w : World} {news : List AV} (hR : Rep base μ s.heap.get w) (hx : VR μ x xv) (h : comesD C i elem tx x s = some ((m, news), s')) :
    s' = s ∧ news.length = m * i.size ∧ ∃ ns, VRs μ news ns ∧ Comes P i elem tx xv m ns w := by
  unfold comesD at h
  cases hu : und C tx with
  | none => rw [hu] at h; exact (DM.fail_some h).elim
  | some d =>
    rw [hu] at h
    have hu' := und_ok hC hu
    by_cases hd : ∃ k, d = .int k
    · obtain ⟨k, rfl⟩ := hd
      simp only [DM.lift_bind, DM.guard_bind, DM.pure_iff, Bool.and_eq_true] at h
      obtain ⟨n, hn, ⟨h1, h2⟩, zero, hz, hzl, h3, rfl⟩ := h
      cases h3
      have h1 := of_ble h1
      have h2 := of_ble h2
      have hzl := Nat.beq_true hzl
      obtain ⟨k', _, rfl⟩ := natOf_some hn hx
      obtain ⟨z, hzr, hzv⟩ := zero_ok hC hz
      have hzc := (hzv μ).cells
      have hzs := hzc.length
      simp only [Array.length_toList] at hzs
      refine ⟨rfl, by rw [rep_length, hzl], _, zeroCells_rel hzc m, .inr ⟨k, k', z, hu', rfl, h1, h2, hzr, by omega, rfl⟩⟩
    · have h' : (do
          let m ← DM.lift (lenD x)
          let news ← sliceCells i.size m x
          DM.guard (Nat.beq news.length (m * i.size))
          DM.pure (m, news)) s = some ((m, news), s') := by
        cases d <;> first | exact h | exact (hd ⟨_, rfl⟩).elim
      simp only [DM.lift_bind] at h'
      obtain ⟨n, hn, h'⟩ := h'
      obtain ⟨cs, s1, h1, h2⟩ := DM.bind_some h'
      simp only [DM.guard_bind, DM.pure_iff] at h2
      obtain ⟨h3, h4, rfl⟩ := h2
      cases h4
      obtain ⟨rfl, xs, hxs, hrun⟩ := sliceCells_sim (P := P) hR hx h1
      exact ⟨rfl, Nat.beq_true h3, xs, hxs, .inl ⟨d, hu', fun k hk => hd ⟨k, hk⟩, fun w' => lenD_some hn hx w', hrun⟩⟩

/-- append in place. -/
theorem run_append_in {i : TypeInfo} {elem ts tx : TypeId} {ty : TypeId} {x : Value} {n : Nat} {news : List Value} {w : World} (hts : P.underlying ts = some (.slice elem)) (hi : P.info? elem = some i) (hc : Comes P i elem tx x n news w)
    {bs : Option Addr} {sLen sCap : Nat} (hle : sLen + n ≤ sCap) :
    (Builtin.append_ #[ts, tx] ty #[.slice bs sLen sCap, x]).run P w =
      (match bs with
       | none => Result.ok () w
       | some a => (storeCells (a.add (sLen * i.size)) news).run P w).andThen fun _ w' => .ok (.slice bs (sLen + n) sCap) w' := by
  have hsz : ∀ w, (Go.sizeOf elem).run P w = .ok i.size w := fun w => by simp [Go.sizeOf, run_typeInfo hi]
  rcases hc with ⟨d, hd, hnd, hln, hfc⟩ | ⟨k, k', z, hk, rfl, h1, h2, hzr, hzs, rfl⟩
  · have hm : (d matches .int _) = false := by cases d <;> first | rfl | exact absurd rfl (hnd _)
    cases bs with
    | none => simp [Builtin.append_, run_underlying hts, hsz, run_underlying hd, hm, hln, hle, hfc w rfl]
    | some a => simp [Builtin.append_, run_underlying hts, hsz, run_underlying hd, hm, hln, hle, hfc w rfl]
  · have hwl := wrap64_small (n := n) (by omega)
    have h3 : ¬ ((n : Int) < 0) := by omega
    have hb : n * i.bytes ≤ 1073741824 * 1024 := Nat.mul_le_mul h1 h2
    have hb' : ((n * i.bytes : Nat) : Int) ≤ ((1073741824 * 1024 : Nat) : Int) := Int.ofNat_le.2 hb
    rw [Int.natCast_mul] at hb'
    have h4 : ¬ (281474976710656 < (n : Int) * (i.bytes : Int)) := by omega
    have h0 : n * i.size = 0 → Builtin.zeroCells z.cells n = #[] := fun h => Array.eq_empty_of_size_eq_zero (by rw [size_zeroCells, hzs, h])
    cases bs with
    | none =>
      simp [Builtin.append_, run_underlying hts, hsz, run_underlying hk, run_typeInfo hi, asInt, asIntOf, hwl, h3, h4, hle]
      intro _
      simp [hzr]
    | some a =>
      simp [Builtin.append_, run_underlying hts, hsz, run_underlying hk, run_typeInfo hi, asInt, asIntOf, hwl, h3, h4, hle]
      split
      · rename_i h0'
        simp [h0 (by simpa using h0')]
      · simp [hzr]

/-- append into a new row. -/
theorem run_append_new {i : TypeInfo} {elem ts tx : TypeId} {ty : TypeId} {x z : Value} {n : Nat} {news olds : List Value} {w : World} (hts : P.underlying ts = some (.slice elem)) (hi : P.info? elem = some i) (hc : Comes P i elem tx x n news w)
    {bs : Option Addr} {sLen sCap : Nat} (hle : sCap < sLen + n) (ho : ∀ w', w'.heap = w.heap → (Builtin.firstCells i.size sLen (.slice bs sLen sCap)).run P w' = .ok olds.toArray w')
    (h30 : sLen + n ≤ 1073741824) (hb : i.bytes ≤ 1024) (hb0 : 0 < i.bytes) (hz : ∀ w, (zeroValue elem).run P w = .ok z w) :
    (Builtin.append_ #[ts, tx] ty #[.slice bs sLen sCap, x]).run P w =
      .ok (.slice (some ⟨w.heap.size, 0, none⟩) (sLen + n) (grownCap w (sLen + n) sCap elem)) (w.drew.alloc (.cells (olds.toArray ++ news.toArray ++ Builtin.zeroCells z.cells (grownCap w (sLen + n) sCap elem - (sLen + n))) elem)) := by
  have hsz : ∀ w, (Go.sizeOf elem).run P w = .ok i.size w := fun w => by simp [Go.sizeOf, run_typeInfo hi]
  have hng : ¬ (sLen + n ≤ sCap) := by omega
  have hbm : (sLen + n) * i.bytes ≤ 1073741824 * 1024 := Nat.mul_le_mul h30 hb
  have h48' : ¬ (281474976710656 < Builtin.nextslicecap (sLen + n) sCap * i.bytes) := by
    have := growslice_fits (old := sCap) (need := sLen + n) (bytes := i.bytes) hle (by omega)
    omega
  have hn63 : ¬ (9223372036854775807 < ((sLen : Int) + (n : Int))) := by omega
  have hb00 : i.bytes ≠ 0 := by omega
  have hod := ho w.drew rfl
  rcases hc with ⟨d, hd, hnd, hln, hfc⟩ | ⟨k, k', z', hk, rfl, h1, h2, hzr, hzs, rfl⟩
  · have hm : (d matches .int _) = false := by cases d <;> first | rfl | exact absurd rfl (hnd _)
    have hfd := hfc w.drew rfl
    simp [Builtin.append_, run_underlying hts, hsz, run_underlying hd, hm, hln, hng, hn63, hb00, run_typeInfo hi, h48', Question.forced, hod, hfd, hz, newRow, grownCap]
    congr 2
    apply Array.ext'
    simp [List.append_assoc]
  · have hwl := wrap64_small (n := n) (by omega)
    have h3 : ¬ ((n : Int) < 0) := by omega
    have hb2 : n * i.bytes ≤ 1073741824 * 1024 := Nat.mul_le_mul h1 h2
    have hb' : ((n * i.bytes : Nat) : Int) ≤ ((1073741824 * 1024 : Nat) : Int) := Int.ofNat_le.2 hb2
    rw [Int.natCast_mul] at hb'
    have h4 : ¬ (281474976710656 < (n : Int) * (i.bytes : Int)) := by omega
    have h0 : n * i.size = 0 → Builtin.zeroCells z'.cells n = #[] := fun h => Array.eq_empty_of_size_eq_zero (by rw [size_zeroCells, hzs, h])
    have hzz : z' = z := by
      have := (hzr w).symm.trans (hz w)
      simpa using this
    subst hzz
    simp [Builtin.append_, run_underlying hts, hsz, run_underlying hk, run_typeInfo hi, asInt, asIntOf, hwl, h3, h4, hng, hn63, h48', Question.forced, hod, hz, newRow, grownCap]
    intro h0'
    simp [h0 (by simpa using h0')]

/-- What an operation's simulation says. -/
def OpOut (P : Program) (base : World) (μ : Mu) (s s' : St) (m : Sem Value) (w : World) (a : AV) : Prop :=
  ∃ μ' w' v, m.run P w = .ok v w' ∧ Rep base μ' s'.heap.get w' ∧ Ext' μ μ' s.ctr s'.ctr ∧ VR μ' a v ∧ s'.rc = s.rc

theorem sliceCells_len {sz n id off len : Nat} {c : Cap} {s s' : St} {cs : List AV} (h : sliceCells sz n (.slice id off len c) s = some (cs, s')) : cs.length = n * sz := by
  simp only [sliceCells] at h
  cases h0 : Nat.beq (n * sz) 0 with
  | true => rw [h0] at h; obtain ⟨rfl, rfl⟩ := DM.pure_some h; rw [Nat.beq_true h0]; rfl
  | false =>
    rw [h0] at h
    simp only [DM.guard_bind] at h
    obtain ⟨_, cs', e, fz, m, hg, _, _, hl, _, rfl⟩ := rdN_some h.2
    simp only [List.length_take, List.length_drop]
    omega

theorem appendNew_sim (hC : TyOk P C) {elem ts tx ty len m : Nat} {i : TypeInfo} {old news : List AV} {bs : Option Addr} {sCap : Nat} {xv : Value} {olds ns : List Value} {μ : Mu} {s s' : St} {w : World} {a : AV}
    (hR : Rep base μ s.heap.get w) (hts : P.underlying ts = some (.slice elem)) (hi : P.info? elem = some i) (hc : Comes P i elem tx xv m ns w) (hle : sCap < len + m)
    (ho : ∀ w', w'.heap = w.heap → (Builtin.firstCells i.size len (.slice bs len sCap)).run P w' = .ok olds.toArray w') (hold : VRs μ old olds) (hnew : VRs μ news ns) (hol : old.length = len * i.size) (hnl : news.length = m * i.size)
    (h : appendNew C elem i.size old news len m i s = some (a, s')) (hF : Fresh μ s.heap.get s.ctr s'.ctr) : OpOut P base μ s s' (Builtin.append_ #[ts, tx] ty #[.slice bs len sCap, xv]) w a := by
  unfold appendNew at h
  simp only [DM.lift_bind, DM.guard_bind, Bool.and_eq_true] at h
  obtain ⟨⟨⟨h1, h2⟩, h3⟩, h4, zero, hz, hzl, hone, h⟩ := h
  obtain ⟨id, s1, h5, h6⟩ := DM.bind_some h
  obtain ⟨rfl, rfl⟩ := DM.pure_some h6
  simp only [new, St.born_eq, Option.some.injEq, Prod.mk.injEq] at h5
  obtain ⟨rfl, rfl⟩ := h5
  obtain ⟨z, hzr, hzv⟩ := zero_ok hC hz
  have hzs := (hzv μ).cells.length
  simp only [Array.length_toList] at hzs
  have hzl := Nat.beq_true hzl
  have h1 := of_ble h1
  have h2 := of_ble h2
  have h3 := of_blt h3
  have h4 := of_blt h4
  have hrun := run_append_new (ty := ty) hts hi hc hle ho h1 h2 h3 hzr
  have hge := grownCap_ge w (len + m) sCap elem
  generalize grownCap w (len + m) sCap elem = nc at hrun hge
  obtain ⟨hμ, hg⟩ := hF s.ctr (Nat.le_refl _) (by simp)
  have hone : ∀ v ∈ old ++ news, v.one = true := List.all_eq_true.1 hone
  let j : Info := ⟨w.heap.size, 0, nc * i.size⟩
  have holl := hold.length
  have hnll := hnew.length
  have hobj : ObjR (upd μ s.ctr j) (w.drew.alloc (.cells (olds.toArray ++ ns.toArray ++ Builtin.zeroCells z.cells (nc - (len + m))) elem)) j (.cells (old ++ news) elem (0, 0) (.grow none)) := by
    refine ⟨olds.toArray ++ ns.toArray ++ Builtin.zeroCells z.cells (nc - (len + m)), (0, 0), by show (w.heap.push _)[w.heap.size]? = _; simp, ?_, ?_, ?_, ?_⟩
    · intro k v hk
      obtain ⟨y, hy, hr⟩ := (hold.append hnew).get hk
      refine ⟨y, ?_, VR.mono (upd_le j hμ) _ _ hr, hone _ (List.mem_of_getElem? hk)⟩
      have hlt := (List.getElem?_eq_some_iff.1 hy).1
      simp only [j, Nat.zero_add]
      rw [Array.getElem?_append_left (by simpa using hlt)]
      rw [← hy]
      simp
    · simp only [j, Array.size_append, List.size_toArray, size_zeroCells, Nat.zero_add]
      rw [← holl, ← hnll, hol, hnl, ← hzs, hzl, ← Nat.add_mul, ← Nat.add_mul]
      congr 1
      omega
    · simp only [j, List.length_append]
      rw [hol, hnl, ← Nat.add_mul]
      exact Nat.mul_le_mul_right _ hge
    · exact FzR.none _ _
  refine ⟨upd μ s.ctr j, _, _, hrun, ?_, upd_ext j hμ, ?_, rfl⟩
  · have := hR.drew.new hμ hg (by simp) (fun cs e fz c hh => by rcases hh with hh | hh <;> cases hh) (i := j) rfl hobj
    simp only [Tr.get_set_fun]
    exact this
  · simp only [VR, capOf]
    refine ⟨j, ⟨w.heap.size, 0, none⟩, upd_self _ _ _, ?_, ?_, fun _ => ?_⟩
    · simp only [j, Nat.sub_zero]
      rw [Nat.mul_div_cancel _ h4]
    · simp only [j, Nat.sub_zero]
      rw [Nat.mul_div_cancel _ h4]
      exact hge
    · rfl

theorem FzR.from {i : Info} {off : Nat} {fr fz : Nat × Nat} (h : FzR i fr fz) (ho : off ≤ i.csize) (h0 : off = 0 ∨ fz.2 ≤ fz.1) : FzR ⟨i.blk, i.off + off, i.csize - off⟩ fr fz := by
  obtain ⟨a, b, c⟩ := h
  refine ⟨fun k hk h1 h2 => ?_, b, fun hlt => ?_⟩
  · simp only at hk h1 h2
    have := a (off + k) (by omega) (by omega) (by omega)
    omega
  · have := c hlt
    simp only
    omega

theorem appendOpen_sim (hC : TyOk P C) {elem ts tx ty id off len m n : Nat} {i : TypeInfo} {news : List AV} {xv sv : Value} {ns : List Value} {μ : Mu} {s s' : St} {w : World} {a : AV} {cs : List AV} {e : TypeId} {fz : Nat × Nat} {c0 : Option Nat}
    (hR : Rep base μ s.heap.get w) (hts : P.underlying ts = some (.slice elem)) (hi : P.info? elem = some i) (hc : Comes P i elem tx xv m ns w) (hm : 0 < m)
    (hg : s.heap.get id = some (.cells cs e fz (.grow c0))) (hn : cs.length = n) (hs : VR μ (.slice id off len (.op i.size)) sv) (hnew : VRs μ news ns) (hnl : news.length = m * i.size)
    (h : appendOpen C elem i id off len m news n e fz c0 s = some (a, s')) (hF : Fresh μ s.heap.get s.ctr s'.ctr) : OpOut P base μ s s' (Builtin.append_ #[ts, tx] ty #[sv, xv]) w a := by
  unfold appendOpen at h
  simp only [DM.lift_bind, DM.guard_bind, Bool.and_eq_true] at h
  obtain ⟨hlen, ⟨⟨⟨h1, h2⟩, h3⟩, h4⟩, zero, hz, ⟨⟨⟨⟨hone, he⟩, hfz⟩, hzl⟩, hfz0⟩, h⟩ := h
  rw [Bool.or_eq_true] at hfz0
  have hlen := Nat.beq_true hlen
  have h1 := of_ble h1
  have h2 := of_ble h2
  have h3 := of_blt h3
  have h4 := of_blt h4
  have he := Nat.beq_true he
  have hfz := of_ble hfz
  have hzl := Nat.beq_true hzl
  have hone : ∀ v ∈ news, v.one = true := List.all_eq_true.1 hone
  subst he hn
  obtain ⟨old, s1, h5, h⟩ := DM.bind_some h
  obtain ⟨c, s2, h6, h⟩ := DM.bind_some h
  obtain ⟨_, s3, h7, h⟩ := DM.bind_some h
  obtain ⟨id', s4, h8, h9⟩ := DM.bind_some h
  obtain ⟨rfl, rfl⟩ := DM.pure_some h9
  simp only [new, St.born_eq, Option.some.injEq, Prod.mk.injEq] at h8
  obtain ⟨rfl, rfl⟩ := h8
  obtain ⟨rfl, i0, X, e', fr, xs, hi0, hX, hxl, hvr, holdone, hxk⟩ := rdN_sound hR h5
  have holen : old.length = len * i.size := by rw [hvr.length, hxl]
  have hnll := hnew.length
  obtain ⟨i1, hi1, X1, fr1, hX1, hcr, hoff, hcsz, hfzr⟩ := hR.obj id _ hg trivial (by simp)
  rw [hi0] at hi1; cases hi1
  rw [hX] at hX1; cases hX1
  -- the chain
  have hchain : ∃ μ1, Rep base μ1 s2.heap.get w ∧ Ext' μ μ1 s1.ctr s2.ctr ∧ (∃ x, μ1 c = some x) ∧ (c0 = none ∨ c0 = some c) ∧ s2.heap.get id = some (.cells cs e fz (.grow c0)) ∧ s2.rc = s1.rc ∧ s1.ctr ≤ s2.ctr ∧ μ1 s2.ctr = none ∧ s2.heap.get s2.ctr = none := by
    cases c0 with
    | some c1 =>
      obtain ⟨rfl, rfl⟩ := DM.pure_some h6
      obtain ⟨a, b⟩ := hF _ (Nat.le_refl _) (by obtain ⟨_, _, _, _, _, _, _, rfl⟩ := setMode_some h7; simp)
      exact ⟨μ, hR, Ext'.refl _ _ _, hR.roc id cs e fz c (.inr hg), .inr rfl, hg, rfl, Nat.le_refl _, a, b⟩
    | none =>
      simp only [chainD, new, St.born_eq, Option.some.injEq, Prod.mk.injEq] at h6
      obtain ⟨rfl, rfl⟩ := h6
      have hsc : s3.ctr = s1.ctr + 1 := by obtain ⟨_, _, _, _, _, _, _, rfl⟩ := setMode_some h7; rfl
      obtain ⟨a, b⟩ := hF s1.ctr (Nat.le_refl _) (by simp only [hsc]; omega)
      obtain ⟨a', b'⟩ := hF (s1.ctr + 1) (by omega) (by simp only [hsc]; omega)
      have hne : id ≠ s1.ctr := by rintro rfl; rw [hg] at b; cases b
      refine ⟨upd μ s1.ctr i0, ?_, upd_ext i0 a, ⟨i0, upd_self _ _ _⟩, .inl rfl, ?_, rfl, by simp, ?_, ?_⟩
      · simp only [Tr.get_set_fun]
        exact hR.newChain a b i0 (hR.lt _ _ hi0)
      · simp only [Tr.get_set_fun, if_neg hne]; exact hg
      · simp only; rw [upd_ne _ (by omega)]; exact a'
      · simp only [Tr.get_set_fun]; rw [if_neg (by omega)]; exact b'
  obtain ⟨μ1, hR1, hE1, hμc, hc0, hg2, hrc, hct, hμn, hgn⟩ := hchain
  have hi1 := hE1.le _ _ hi0
  obtain ⟨cs', e2, fz2, m2, hg3, _, _, rfl⟩ := setMode_some h7
  rw [hg2] at hg3; cases hg3
  have hR2 := hR1.toRo (fz' := fz) hg2 hi1 hc0 hμc
  have hidne : id ≠ s2.ctr := by rintro rfl; rw [hg2] at hgn; cases hgn
  have hs' := VR.mono hE1.le _ _ hs
  simp only [VR, capOf] at hs
  obtain ⟨i2, ad, hi2, rfl, hle, had⟩ := hs
  rw [hi0] at hi2; cases hi2
  have hoffle : off + len * i.size ≤ i0.csize := by omega
  have hnewlen : ns.length = m * i.size := by omega
  by_cases hroom : len + m ≤ (i0.csize - off) / i.size
  · -- in place
    have had := had (by omega)
    subst had
    have hroom' : off + (len + m) * i.size ≤ i0.csize := by
      have := (Nat.le_div_iff_mul_le h4).1 hroom
      omega
    rw [Nat.add_mul] at hroom'
    have hsto := run_storeCells_row (P := P) ns w X (i0.off + off + len * i.size) 0 hX (by omega) (fun x hxm => by
        obtain ⟨k, hk⟩ := List.getElem?_of_mem hxm
        have hlt : k < news.length := by rw [hnll]; exact (List.getElem?_eq_some_iff.1 hk).1
        obtain ⟨y, hy, hr⟩ := hnew.get (List.getElem?_eq_getElem hlt)
        rw [hk] at hy; cases hy
        exact hr.one (hone _ (List.getElem_mem hlt)))
      (fun k hk hh => by
        have := hfzr.1 (off + len * i.size + k) (by omega) (by omega) (by omega)
        omega)
    simp only [Nat.add_zero] at hsto
    have hrun := run_append_in (ty := ty) hts hi hc (bs := some ⟨i0.blk, i0.off + off, none⟩) hroom
    simp only [Addr.add_eq, hsto, Result.andThen_ok] at hrun
    let j : Info := ⟨i0.blk, i0.off + off, i0.csize - off⟩
    have hspl : ∀ k, (splice X.toList (i0.off + off + len * i.size) ns).toArray[k]? = if i0.off + off + len * i.size ≤ k ∧ k < i0.off + off + len * i.size + ns.length then ns[k - (i0.off + off + len * i.size)]? else X[k]? := by
      intro k
      rw [List.getElem?_toArray, splice_get _ _ _ (by simp; omega)]
      simp
    have hsz : (splice X.toList (i0.off + off + len * i.size) ns).toArray.size = X.size := by
      simp only [List.size_toArray]; rw [splice_length _ _ _ (by simp; omega)]; simp
    have hblk : ({ w with heap := w.heap.setIfInBounds i0.blk (.cells (splice X.toList (i0.off + off + len * i.size) ns).toArray e fr) } : World).heap[i0.blk]? = some (.cells (splice X.toList (i0.off + off + len * i.size) ns).toArray e fr) := by
      simp [(Array.getElem?_eq_some_iff.1 hX).1]
    refine ⟨upd μ1 s2.ctr j, _, _, hrun, ?_, hE1.trans (upd_ext j hμn) hct (by simp), ?_, hrc⟩
    · have := hR2.adopt (id := s2.ctr) (i := j) (cs := old ++ news) (e := e) (fz := fz) (c := c) (w' := { w with heap := w.heap.setIfInBounds i0.blk (.cells (splice X.toList (i0.off + off + len * i.size) ns).toArray e fr) })
        hμn (by simp only [if_neg (Ne.symm hidne)]; exact hgn) (hR.ge id _ i0 hg trivial hi0) (hR.lt id i0 hi0) hμc ⟨rfl, rfl, rfl⟩ (by simp) (fun b hb => by simp only [Array.getElem?_setIfInBounds]; rw [if_neg (Ne.symm hb)]) ?_ ?_
      · simp only [Tr.get_set_fun]
        exact this
      · intro k x xi hk hlx hxc hxi hxb
        by_cases hki : k = id
        · subst hki
          simp only [if_pos, Option.some.injEq] at hk
          subst hk
          rw [hi1] at hxi; cases hxi
          refine ⟨cs, e, fz, rfl, by simp only [j, List.length_append]; omega, _, fr, hblk, ?_, trivial⟩
          intro q v hq
          obtain ⟨y, hy, hr⟩ := hcr q v hq
          have hqlt := (List.getElem?_eq_some_iff.1 hq).1
          refine ⟨y, ?_, VR.mono hE1.le _ _ hr.1, hr.2⟩
          rw [hspl, if_neg (by omega)]
          exact hy
        · simp only [if_neg hki] at hk
          have hlx' : live s2.heap.get x := live_set (fun _ _ _ _ => .inr trivial) hlx (by simp)
          have hkin := hR1.beside hg2 hi1 trivial hki hk hlx' hxc hxi hxb
          obtain ⟨c', cs1, e1, fz1, cs2, e2, fz2, h1', rfl, hle'⟩ := hkin
          cases h1'
          have hcc : c' = c := by rcases hc0 with hh | hh <;> cases hh; rfl
          subst hcc
          obtain ⟨y, hy, X2, fr2, hX2, hcr2, _⟩ := hR1.obj k _ hk hlx' (by simp)
          rw [hxi] at hy; cases hy
          rw [hxb, hX] at hX2; cases hX2
          refine ⟨cs2, e, fz2, rfl, by simp only [j, List.length_append]; omega, _, fr, by rw [hxb]; exact hblk, ?_, trivial⟩
          intro q v hq
          obtain ⟨y, hy, hr⟩ := hcr2 q v hq
          have hqlt := (List.getElem?_eq_some_iff.1 hq).1
          refine ⟨y, ?_, hr⟩
          rw [hspl, if_neg (by omega)]
          exact hy
      · refine ⟨_, fr, hblk, ?_, ?_, ?_, ?_⟩
        · intro q v hq
          simp only [j]
          rw [hspl]
          by_cases hq1 : q < len * i.size
          · rw [if_neg (by omega)]
            rw [List.getElem?_append_left (by omega)] at hq
            obtain ⟨y, hy, hr⟩ := hvr.get hq
            exact ⟨y, hxk q y hy, VR.mono (hE1.le.trans (upd_le j hμn)) _ _ hr, holdone _ (List.mem_of_getElem? hq)⟩
          · rw [List.getElem?_append_right (by omega)] at hq
            have hqlt := (List.getElem?_eq_some_iff.1 hq).1
            rw [if_pos (by omega)]
            obtain ⟨y, hy, hr⟩ := hnew.get hq
            refine ⟨y, ?_, VR.mono (hE1.le.trans (upd_le j hμn)) _ _ hr, hone _ (List.mem_of_getElem? hq)⟩
            rw [← hy]; congr 1; omega
        · rw [hsz]; simp only [j]; omega
        · simp only [j, List.length_append]; omega
        · exact FzR.from hfzr (by omega) (by
            rcases hfz0 with hh | hh
            · exact .inl (Nat.beq_true hh)
            · exact .inr (of_ble hh))
    · simp only [VR, capOf]
      exact ⟨j, _, upd_self _ _ _, by simp [j], by simp only [j, Nat.sub_zero]; exact hroom, fun _ => rfl⟩
  · -- a new row
    have ho : ∀ w', w'.heap = w.heap → (Builtin.firstCells i.size len (.slice (some ad) len ((i0.csize - off) / i.size))).run P w' = .ok xs.toArray w' := by
      intro w' hw
      simp only [Builtin.firstCells]
      rw [← hxl]
      by_cases h0 : len = 0
      · have : xs = [] := List.length_eq_zero_iff.1 (by rw [hxl, h0]; omega)
        subst this
        exact run_loadCells_list (P := P) w' ad [] (by simp)
      · rw [had (by omega)]
        exact run_loadCells_row (hw ▸ hX) hxk
    obtain ⟨z, hzr, hzv⟩ := zero_ok hC hz
    have hzs := (hzv μ).cells.length
    simp only [Array.length_toList] at hzs
    have hrun := run_append_new (ty := ty) hts hi hc (Nat.lt_of_not_le hroom) ho h1 h2 h3 hzr
    have hge := grownCap_ge w (len + m) ((i0.csize - off) / i.size) e
    generalize grownCap w (len + m) ((i0.csize - off) / i.size) e = nc at hrun hge
    let j : Info := ⟨w.heap.size, 0, nc * i.size⟩
    have hvr1 := VRs.mono (hE1.le.trans (upd_le j hμn)) _ _ hvr
    have hnew1 := VRs.mono (hE1.le.trans (upd_le j hμn)) _ _ hnew
    have hobj : ObjR (upd μ1 s2.ctr j) (w.drew.alloc (.cells (xs.toArray ++ ns.toArray ++ Builtin.zeroCells z.cells (nc - (len + m))) e)) j (.cells (old ++ news) e (fz) (.grow (some c))) := by
      refine ⟨xs.toArray ++ ns.toArray ++ Builtin.zeroCells z.cells (nc - (len + m)), (0, 0), by show (w.heap.push _)[w.heap.size]? = _; simp, ?_, ?_, ?_, ?_⟩
      · intro k v hk
        obtain ⟨y, hy, hr⟩ := (hvr1.append hnew1).get hk
        refine ⟨y, ?_, hr, ?_⟩
        · have hlt := (List.getElem?_eq_some_iff.1 hy).1
          simp only [j, Nat.zero_add]
          rw [Array.getElem?_append_left (by simpa using hlt)]
          rw [← hy]
          simp
        · rcases List.mem_append.1 (List.mem_of_getElem? hk) with hh | hh
          · exact holdone _ hh
          · exact hone _ hh
      · simp only [j, Array.size_append, List.size_toArray, size_zeroCells, Nat.zero_add]
        rw [hxl, hnewlen, ← hzs, hzl, ← Nat.add_mul, ← Nat.add_mul]
        congr 1
        omega
      · simp only [j, List.length_append]
        rw [holen, hnl, ← Nat.add_mul]
        exact Nat.mul_le_mul_right _ hge
      · exact FzR.none _ _
    refine ⟨upd μ1 s2.ctr j, _, _, hrun, ?_, hE1.trans (upd_ext j hμn) hct (by simp), ?_, hrc⟩
    · have := hR2.drew.new (id := s2.ctr) hμn (by simp only [if_neg (Ne.symm hidne)]; exact hgn) (by simp) (fun cs e fz c hh => by
          rcases hh with hh | hh
          · cases hh
          · cases hh; exact hμc) (i := j) rfl hobj
      simp only [Tr.get_set_fun]
      exact this
    · simp only [VR, capOf]
      refine ⟨j, ⟨w.heap.size, 0, none⟩, upd_self _ _ _, ?_, ?_, fun _ => ?_⟩
      · simp only [j, Nat.sub_zero]
        rw [Nat.mul_div_cancel _ h4]
      · simp only [j, Nat.sub_zero]
        rw [Nat.mul_div_cancel _ h4]
        exact hge
      · rfl

end Pd
