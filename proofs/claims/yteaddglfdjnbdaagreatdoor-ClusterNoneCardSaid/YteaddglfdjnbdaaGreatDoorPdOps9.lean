/-
  The evaluator's operations and the model's: conversions; a row's bytes seen as a text.
-/
import Derived.Test.YteaddglfdjnbdaaGreatDoorPdOps8
set_option linter.unusedVariables false
set_option linter.unusedSimpArgs false
namespace Pd
open Go
variable {P : Program} {C : Ctx} {base : World}

theorem drew_heap (w : World) : w.drew.heap = w.heap := rfl
theorem run_newObj' (o : Obj) (w : World) : (newObj o).run P w = .ok w.heap.size (w.alloc o) := rfl

theorem isByte_some {t : Nat} (h : isByte C t = true) : und C t = some (.int .u8) := by
  unfold isByte at h
  split at h
  · assumption
  · cases h

theorem bytesOf_some : ∀ {cs : List AV} {b : List UInt8}, bytesOf cs = some b → ∀ {μ : Mu} {xs : List Value}, VRs μ cs xs → ∃ ns : List Int, xs = ns.map (Value.int .u8) ∧ b = ns.map fun n => UInt8.ofNat n.toNat
  | [], b, h, μ, xs, hx => by
    simp only [bytesOf, Option.some.injEq] at h
    subst h
    simp only [VRs] at hx
    subst hx
    exact ⟨[], rfl, rfl⟩
  | c :: cs, b, h, μ, xs, hx => by
    unfold bytesOf at h
    split at h
    · rename_i he; cases he
    · rename_i n vs he
      cases he
      cases hk : inKind .u8 n with
      | false => rw [hk] at h; cases h
      | true =>
        rw [hk] at h
        simp only at h
        cases hb : bytesOf cs with
        | none => rw [hb] at h; cases h
        | some l =>
          rw [hb] at h
          cases h
          simp only [VRs, VR] at hx
          obtain ⟨x, xs', rfl, rfl, hxs⟩ := hx
          obtain ⟨ns, rfl, rfl⟩ := bytesOf_some hb hxs
          exact ⟨n :: ns, rfl, rfl⟩
    · cases h

theorem foldl_push (ns : List Int) : ∀ (s : ByteArray), ns.foldl (fun r n => r.push (UInt8.ofNat n.toNat)) s = ⟨(s.data.toList ++ ns.map fun n => UInt8.ofNat n.toNat).toArray⟩ := by
  induction ns with
  | nil => intro s; simp
  | cons n ns ih =>
    intro s
    rw [List.foldl_cons, ih]
    simp [ByteArray.push]

theorem run_loadBytes {w : World} {b : Nat} {X : Array Value} {e : TypeId} {fr : Nat × Nat} (hX : w.heap[b]? = some (.cells X e fr)) : ∀ (ns : List Int) (o : Nat) (acc : ByteArray), (∀ (k : Nat) n, ns[k]? = some n → X[o + k]? = some (.int .u8 n)) →
    (loadBytes ⟨b, o, none⟩ acc ns.length).run P w = .ok ⟨(acc.data.toList ++ ns.map fun n => UInt8.ofNat n.toNat).toArray⟩ w
  | [], o, acc, h => by simp [loadBytes]
  | n :: ns, o, acc, h => by
    have h0 := h 0 n rfl
    simp only [Nat.add_zero] at h0
    simp only [List.length_cons, loadBytes, Sem.run_bind, run_load, cell?_of hX, h0, Result.andThen_ok, Addr.add_eq]
    rw [run_loadBytes hX ns (o + 1) _ (fun k m hm => by have := h (k + 1) m hm; rw [show o + 1 + k = o + (k + 1) by omega]; exact this)]
    congr 2
    simp [ByteArray.push]

theorem viewAt_row {w : World} {b : Nat} {X : Array Value} {e : TypeId} {fr : Nat × Nat} (hX : w.heap[b]? = some (.cells X e fr)) : (viewAt b).run P w = .ok none w := by
  simp [viewAt, World.shape?, hX]

theorem seenAt_row {w : World} {b o : Nat} {X : Array Value} {e : TypeId} {fr : Nat × Nat} (hX : w.heap[b]? = some (.cells X e fr)) : (Conv.seenAt ⟨b, o, none⟩).run P w = .ok ⟨b, o, none⟩ w := by
  simp [Conv.seenAt, viewAt_row hX]

/-- A row is frozen in part. -/
theorem freeze_row {w : World} {b o n : Nat} {X : Array Value} {e : TypeId} {fr : Nat × Nat} (hX : w.heap[b]? = some (.cells X e fr)) (hn : n ≠ 0) :
    w.freeze ⟨b, o, none⟩ n = { w with heap := w.heap.setIfInBounds b (.cells X e (if fr.1 == fr.2 then (o, o + n) else (min fr.1 o, max fr.2 (o + n)))) } := by
  unfold World.freeze
  rw [if_neg hn]
  congr 1
  apply Array.ext_getElem?
  intro i
  simp only [Array.getElem?_modify, Array.getElem?_setIfInBounds]
  by_cases hb : b = i
  · subst hb
    obtain ⟨hlt, he⟩ := Array.getElem?_eq_some_iff.1 hX
    simp [hlt, he]
  · simp [hb]

theorem toBytes_sim (hC : TypesOk P C) {e : Nat} {b : List UInt8} {r : AV} {μ : Mu} {s s' : St} {w : World} (hR : Rep base μ s.heap.get w) (h : convTo C (.toBytes e) (.str b) s = some (r, s')) (hF : Fresh μ s.heap.get s.ctr s'.ctr) :
    OpOut P base μ s s' (Conv.stringToBytes e ⟨b.toArray⟩) w r := by
  simp only [convTo, DM.guard_bind] at h
  obtain ⟨hl, h⟩ := h
  have hl := of_ble hl
  obtain ⟨id, s1, h5, h6⟩ := DM.bind_some h
  obtain ⟨rfl, rfl⟩ := DM.pure_some h6
  simp only [new, St.born_eq, Option.some.injEq, Prod.mk.injEq] at h5
  obtain ⟨rfl, rfl⟩ := h5
  have hsz : ByteArray.size ⟨b.toArray⟩ = b.length := by simp [ByteArray.size]
  have hge := grownCap_ge w b.length 0 e
  obtain ⟨hμ, hg⟩ := hF s.ctr (Nat.le_refl _) (by simp)
  let nc := grownCap w b.length 0 e
  let X : Array Value := (b.toArray.map fun x => (Value.int .u8 x.toNat)) ++ Array.replicate (nc - b.length) (.int .u8 0)
  have hXs : X.size = nc := by simp only [X, Array.size_append, Array.size_map, List.size_toArray, Array.size_replicate]; have : b.length ≤ nc := hge; omega
  have hrun : (Conv.stringToBytes e ⟨b.toArray⟩).run P w = .ok (.slice (some ⟨w.heap.size, 0, none⟩) b.length nc) (w.drew.alloc (.cells X e (nc, nc + 1))) := by
    have hb : (w.drew.alloc (.cells X e)).heap[w.heap.size]? = some (.cells X e (0, 0)) := by show (w.heap.push _)[w.heap.size]? = _; simp
    have hfz := freeze_row (o := nc) (n := 1) hb (by omega)
    have hw : (w.drew.alloc (.cells X e)).freeze ⟨w.heap.size, nc, none⟩ 1 = w.drew.alloc (.cells X e (nc, nc + 1)) := by
      rw [hfz]
      simp only [World.alloc, beq_self_eq_true, if_true]
      congr 1
      apply Array.ext_getElem?
      intro i
      rw [Array.getElem?_setIfInBounds, Array.getElem?_push, Array.getElem?_push]
      simp only [World.drew, Array.size_push]
      by_cases hi : w.heap.size = i
      · subst hi; simp
      · simp [hi, Ne.symm hi]
    have hch : (choose (.appendCap b.length 0 e)).run P w = .ok nc w.drew := by
      simp [Question.forced, nc, grownCap]
    have hX : (ByteArray.mk b.toArray).data.map (fun b => Value.int .u8 b.toNat) ++ Array.replicate (nc - b.length) (.int .u8 0) = X := rfl
    simp only [Conv.stringToBytes, Sem.run_bind, hsz, hch, Result.andThen_ok, hX, newRow, run_newObj', Sem.run_pure, markStringish, run_shape]
    have hsh : (w.drew.alloc (.cells X e)).shape? w.drew.heap.size = some (e, nc) := by
      simp only [World.shape?, drew_heap, hb, hXs]
    simp only [drew_heap] at hsh ⊢
    simp only [hsh, run_freeze, hw, Result.andThen_ok]
  let j : Info := ⟨w.heap.size, 0, nc⟩
  refine ⟨upd μ s.ctr j, _, _, hrun, ?_, upd_ext j hμ, ?_, rfl⟩
  · have hobj : ObjR (upd μ s.ctr j) (w.drew.alloc (.cells X e (nc, nc + 1))) j (.cells (b.map fun x => .int .u8 x.toNat) e (1, 0) (.grow none)) := by
      refine ⟨X, (nc, nc + 1), by show (w.heap.push _)[w.heap.size]? = _; simp, ?_, ?_, ?_, ?_⟩
      · intro k v hk
        obtain ⟨y, hy, hr⟩ := (bytes_rel (μ := upd μ s.ctr j) b).get hk
        refine ⟨y, ?_, hr, ?_⟩
        · have hlt := (List.getElem?_eq_some_iff.1 hy).1
          simp only [j, Nat.zero_add, X]
          rw [Array.getElem?_append_left (by simpa using hlt)]
          rw [← hy]
          simp
        · rw [List.getElem?_map] at hk
          cases hb : b[k]? with
          | none => rw [hb] at hk; cases hk
          | some x => rw [hb] at hk; cases hk; rfl
      · simp only [j, hXs, Nat.zero_add]
      · simp only [j, List.length_map]; exact hge
      · refine ⟨fun k hk h1 h2 => ?_, fun h => by simp at h, fun h => by simp at h⟩
        simp only [j] at hk h1 h2
        omega
    have := hR.drew.new hμ hg (by simp) (fun cs e fz c hh => by rcases hh with hh | hh <;> cases hh) (i := j) rfl hobj
    simp only [Tr.get_set_fun]
    exact this
  · simp only [VR, capOf]
    refine ⟨j, ⟨w.heap.size, 0, none⟩, upd_self _ _ _, ?_, ?_, fun _ => rfl⟩
    · simp [j]
    · simpa [j] using hge

theorem shape_row {w : World} {b : Nat} {X : Array Value} {e : TypeId} {fr : Nat × Nat} (hX : w.heap[b]? = some (.cells X e fr)) : w.shape? b = some (e, X.size) := by
  simp [World.shape?, hX]

/-- The bytes of a row's first cells as a text. -/
theorem ofBytes_sim {x : AV} {xv : Value} {r : AV} {μ : Mu} {s s' : St} {w : World} (hR : Rep base μ s.heap.get w) (hx : VR μ x xv) (h : convTo C .ofBytes x s = some (r, s')) :
    s' = s ∧ ∃ v, (Conv.bytesToString xv).run P w = .ok v w ∧ VR μ r v := by
  cases x with
  | nils =>
    simp only [convTo, DM.pure_iff] at h
    obtain ⟨rfl, rfl⟩ := h
    simp only [VR] at hx
    subst hx
    exact ⟨rfl, .string .empty, by simp [Conv.bytesToString], by simp only [VR]; rfl⟩
  | slice id off len c =>
    simp only [convTo] at h
    obtain ⟨cs, s1, h1, h2⟩ := DM.bind_some h
    simp only [DM.lift_bind, DM.pure_iff] at h2
    obtain ⟨b, hb, rfl, rfl⟩ := h2
    obtain ⟨rfl, xs, hxs, hf⟩ := sliceCells_sim (P := P) hR hx h1
    simp only [VR] at hx
    obtain ⟨j, ad, hj, rfl, hle, had⟩ := hx
    obtain ⟨ns, rfl, rfl⟩ := bytesOf_some hb hxs
    have hf := hf w rfl
    simp only [Builtin.firstCells, Nat.mul_one] at hf
    refine ⟨rfl, _, run_bytesToString w ad len _ ns hf, ?_⟩
    simp only [VR]
    rw [foldl_push]
    simp
  | _ => exact (DM.fail_some (s := s) (r := (r, s')) h).elim

theorem conv_sim (hC : TypesOk P C) {src dst : Nat} {x : AV} {xv : Value} {r : AV} {μ : Mu} {s s' : St} {w : World} (hR : Rep base μ s.heap.get w) (hx : VR μ x xv) (h : convD C src dst x s = some (r, s')) (hF : Fresh μ s.heap.get s.ctr s'.ctr) :
    OpOut P base μ s s' (convert src dst xv) w r := by
  unfold convD at h
  simp only [DM.lift_bind] at h
  obtain ⟨cv, hcv, h⟩ := h
  unfold convKind at hcv
  split at hcv
  · rename_i d k k' n hs hd
    cases hcv
    obtain ⟨rfl, rfl⟩ := DM.pure_some h
    simp only [VR] at hx
    subst hx
    have hs' := und_ok hC.toTyOk hs
    have hd' := und_ok hC.toTyOk hd
    refine ⟨μ, w, .int k (k.wrap n), ?_, hR, Ext'.refl _ _ _, by simp only [VR, wrapF_eq], rfl⟩
    simp [convert, run_underlying hs', run_underlying hd', Conv.intToInt]
  · rename_i d b hs hd
    cases hcv
    obtain ⟨rfl, rfl⟩ := DM.pure_some h
    have hx' := hx
    simp only [VR] at hx
    subst hx
    have hs' := und_ok hC.toTyOk hs
    have hd' := und_ok hC.toTyOk hd
    refine ⟨μ, w, _, ?_, hR, Ext'.refl _ _ _, hx', rfl⟩
    simp [convert, run_underlying hs', run_underlying hd']
  · rename_i d e b hs hd
    split at hcv
    · rename_i hb
      cases hcv
      simp only [VR] at hx
      subst hx
      have hs' := und_ok hC.toTyOk hs
      have hd' := und_ok hC.toTyOk hd
      have he' := und_ok hC.toTyOk (isByte_some hb)
      obtain ⟨μ', w', v, h1, h2⟩ := toBytes_sim hC hR h hF
      refine ⟨μ', w', v, ?_, h2⟩
      rw [← h1]
      simp [convert, run_underlying hs', run_underlying hd', run_underlying he']
    · cases hcv
  · rename_i e hs hd
    split at hcv
    · rename_i hb
      cases hcv
      have hs' := und_ok hC.toTyOk hs
      have hd' := und_ok hC.toTyOk hd
      have he' := und_ok hC.toTyOk (isByte_some hb)
      have hx' := hx
      simp only [VR] at hx
      subst hx
      obtain ⟨rfl, v, h1, h2⟩ := ofBytes_sim (P := P) hR hx' h
      exact ⟨μ, w, v, by rw [run_convert_bytes_string w src dst e _ _ _ hs' he' hd']; exact h1, hR, Ext'.refl _ _ _, h2, rfl⟩
    · cases hcv
  · rename_i e id off len c hs hd
    split at hcv
    · rename_i hb
      cases hcv
      have hs' := und_ok hC.toTyOk hs
      have hd' := und_ok hC.toTyOk hd
      have he' := und_ok hC.toTyOk (isByte_some hb)
      obtain ⟨rfl, v, h1, h2⟩ := ofBytes_sim (P := P) hR hx h
      simp only [VR] at hx
      obtain ⟨j, ad, hj, rfl, hle, had⟩ := hx
      exact ⟨μ, w, v, by rw [run_convert_bytes_string w src dst e _ _ _ hs' he' hd']; exact h1, hR, Ext'.refl _ _ _, h2, rfl⟩
    · cases hcv
  · rename_i t id off hs hd
    cases hcv
    have hs' := und_ok hC.toTyOk hs
    have hd' := und_ok hC.toTyOk hd
    simp only [convTo, DM.lift_bind, DM.guard_bind] at h
    obtain ⟨n, hn, h0, h⟩ := h
    obtain ⟨⟨len, e, fz, m⟩, s1, h1, h2⟩ := DM.bind_some h
    simp only [DM.guard_bind, DM.pure_iff] at h2
    obtain ⟨hlt, rfl, rfl⟩ := h2
    obtain ⟨rfl, cs, i, hg, hl, hlv, hi, X, fr, hX, hcr, _⟩ := rowD_sound hR h1
    have h0 := of_blt h0
    have hlt := of_blt hlt
    have hx' := hx
    simp only [VR] at hx
    obtain ⟨j, hj, rfl⟩ := hx
    rw [hi] at hj; cases hj
    have hin : i.off + off < X.size := by
      obtain ⟨y, hy, _⟩ := hcr off cs[off] (List.getElem?_eq_getElem (by omega))
      exact (Array.getElem?_eq_some_iff.1 hy).1
    refine ⟨μ, w, _, ?_, hR, Ext'.refl _ _ _, hx', rfl⟩
    have hn0 : n ≠ 0 := by omega
    have hc : (cellsIn i.blk).run P w = .ok (some X.size) w := by simp [cellsIn, shape_row hX]
    have hsz := sizeOf_ok (P := P) hC.toTyOk hn w
    simp [convert, run_underlying hs', run_underlying hd', Conv.unsafePointer, seenAt_row hX, hc, hsz, hn0]
    omega
  · rename_i u id off hs hd
    cases hcv
    have hs' := und_ok hC.toTyOk hs
    have hd' := und_ok hC.toTyOk hd
    simp only [convTo, DM.lift_bind, DM.guard_bind] at h
    obtain ⟨n, hn, h0, h⟩ := h
    obtain ⟨⟨len, e, fz, m⟩, s1, h1, h2⟩ := DM.bind_some h
    simp only [DM.guard_bind, DM.pure_iff, Bool.and_eq_true] at h2
    obtain ⟨hm, ⟨⟨ho, hlen⟩, hsn⟩, rfl, rfl⟩ := h2
    obtain ⟨rfl, cs, i, hg, hl, hlv, hi, X, fr, hX, hcr, hmd⟩ := rowD_sound hR h1
    cases m with
    | fixed =>
      obtain ⟨hio, hcs, hcl, _⟩ := hmd
      have ho := Nat.beq_true ho
      have hlen := Nat.beq_true hlen
      have hx' := hx
      simp only [VR] at hx
      obtain ⟨j, hj, rfl⟩ := hx
      rw [hi] at hj; cases hj
      have hlies := hC.seen e u n hsn hn
      have hXn : X.size = n := by omega
      refine ⟨μ, w, _, ?_, hR, Ext'.refl _ _ _, hx', rfl⟩
      have hoff : i.off + off = 0 := by omega
      have hv : (variablesAt ⟨i.blk, i.off + off, none⟩ u 1).run P w = .ok true w := by
        rw [hoff]
        simp [variablesAt, shape_row hX, hXn, hlies]
      have hsz := sizeOf_ok (P := P) hC.toTyOk hn w
      simp [convert, run_underlying hs', run_underlying hd', Conv.unsafePointer, seenAt_row hX, hsz, hv]
    | _ => cases hm
  · cases hcv

theorem sliceData_sim {ts : Array TypeId} {ty : Nat} {x : AV} {xv : Value} {r : AV} {μ : Mu} {s s' : St} {w : World} (hR : Rep base μ s.heap.get w) (hx : VR μ x xv) (h : sliceDataB x s = some (r, s')) :
    OpOut P base μ s s' (Builtin.unsafeSliceData_ ts ty #[xv]) w r := by
  cases x with
  | nils =>
    obtain ⟨rfl, rfl⟩ := DM.pure_some h
    simp only [VR] at hx
    subst hx
    exact ⟨μ, w, .pointer none, rfl, hR, Ext'.refl _ _ _, by simp only [VR], rfl⟩
  | slice id off len c =>
    simp only [sliceDataB, DM.guard_bind, DM.pure_iff] at h
    obtain ⟨h0, rfl, rfl⟩ := h
    have h0 := of_blt h0
    simp only [VR] at hx
    obtain ⟨j, ad, hj, rfl, hle, had⟩ := hx
    have hne : capOf j off c ≠ 0 := by omega
    have had := had hne
    subst had
    exact ⟨μ, w, .pointer (some ⟨j.blk, j.off + off, none⟩), by
      show Sem.run P (ite (capOf j off c ≠ 0) _ _) w = _
      rw [if_pos hne]
      rfl, hR, Ext'.refl _ _ _, by simp only [VR]; exact ⟨j, hj, rfl⟩, rfl⟩
  | _ => exact (DM.fail_some (s := s) (r := (r, s')) h).elim

theorem FzR.freeze {i : Info} {fr fz : Nat × Nat} {off n : Nat} (h : FzR i fr fz) (hfz : fz.1 ≤ fz.2) (hn : n ≠ 0) (hl : off + n ≤ i.csize) :
    FzR i (if fr.1 == fr.2 then (i.off + off, i.off + off + n) else (min fr.1 (i.off + off), max fr.2 (i.off + off + n))) (fzWith fz off n) := by
  obtain ⟨h1, h2, h3⟩ := h
  have key : ∃ lo hi, (if fr.1 == fr.2 then (i.off + off, i.off + off + n) else (min fr.1 (i.off + off), max fr.2 (i.off + off + n))) = (lo, hi) ∧ ∃ lo' hi', fzWith fz off n = (lo', hi') ∧ lo < hi ∧ lo' < hi' ∧ i.off + lo' ≤ lo ∧ hi ≤ i.off + hi' := by
    unfold fzWith
    cases hb : Nat.beq fz.1 fz.2 with
    | true =>
      have hb := Nat.beq_true hb
      have := h2 hb
      rw [if_pos (by simpa using this)]
      exact ⟨_, _, rfl, _, _, rfl, by omega, by omega, by omega, by omega⟩
    | false =>
      have hb := Nat.beq_false hb
      have h3 := h3 (by omega)
      by_cases hf : fr.1 = fr.2
      · rw [if_pos (by simpa using hf)]
        refine ⟨_, _, rfl, _, _, rfl, by omega, ?_, ?_, ?_⟩ <;> simp only [Nat.min_def, Nat.max_def] <;> (repeat' split) <;> omega
      · rw [if_neg (by simpa using hf)]
        refine ⟨_, _, rfl, _, _, rfl, ?_, ?_, ?_, ?_⟩ <;> simp only [Nat.min_def, Nat.max_def] <;> (repeat' split) <;> omega
  obtain ⟨lo, hi, e1, lo', hi', e2, k1, k2, k3, k4⟩ := key
  rw [e1, e2]
  refine ⟨fun k _ a b => ?_, fun e => ?_, fun _ => .inr ⟨k3, k4⟩⟩
  · simp only at a b ⊢; omega
  · simp only at e; omega

theorem string_sim (hC : TypesOk P C) {ts : Array TypeId} {t ty : Nat} {x k : AV} {xv kv : Value} {r : AV} {μ : Mu} {s s' : St} {w : World} (hts : ts[0]? = some t) (hR : Rep base μ s.heap.get w) (hx : VR μ x xv) (hk : VR μ k kv) (h : stringB C t x k s = some (r, s')) :
    OpOut P base μ s s' (Builtin.unsafeString_ ts ty #[xv, kv]) w r := by
  unfold stringB at h
  simp only [DM.lift_bind] at h
  obtain ⟨e, he, n, hn, h⟩ := h
  have hu := und_ok hC.toTyOk (ptrTy?_some he)
  obtain ⟨kk, _, rfl⟩ := natOf_some hn hk
  cases h0 : Nat.beq n 0 with
  | true =>
    rw [h0] at h
    simp only [DM.guard_bind, DM.pure_iff] at h
    obtain ⟨hp, rfl, rfl⟩ := h
    have h0 := Nat.beq_true h0
    subst h0
    cases x with
    | nilp =>
      simp only [VR] at hx
      subst hx
      refine ⟨μ, w, .string .empty, ?_, hR, Ext'.refl _ _ _, by simp only [VR]; rfl, rfl⟩
      show (do let n ← asInt (.int kk (0 : Nat)); _ : Sem Value).run P w = _
      simp [asInt, asIntOf, hts]
    | ptr id off =>
      simp only [VR] at hx
      obtain ⟨i, hi, rfl⟩ := hx
      refine ⟨μ, w, .string .empty, ?_, hR, Ext'.refl _ _ _, by simp only [VR]; rfl, rfl⟩
      show (do let n ← asInt (.int kk (0 : Nat)); _ : Sem Value).run P w = _
      simp [asInt, asIntOf, hts]
    | _ => cases hp
  | false =>
    rw [h0] at h
    have h0 := Nat.beq_false h0
    cases x with
    | ptr id off =>
      simp only [DM.guard_bind, Bool.and_eq_true] at h
      obtain ⟨⟨hl, hbe⟩, h⟩ := h
      have hl := of_ble hl
      obtain ⟨⟨len, e', fz, m⟩, s1, h1, h2⟩ := DM.bind_some h
      simp only [DM.guard_bind, Bool.and_eq_true] at h2
      obtain ⟨⟨⟨hbe', hm⟩, hfz⟩, h2⟩ := h2
      have hfz := of_ble hfz
      obtain ⟨rfl, cs, i, hg, hcl, hlv, hi, hO⟩ := rowD_sound hR h1
      obtain ⟨cs1, s2, h3, h4⟩ := DM.bind_some h2
      simp only [DM.lift_bind] at h4
      obtain ⟨b, hb, h4⟩ := h4
      obtain ⟨_, s3, h5, h6⟩ := DM.bind_some h4
      obtain ⟨rfl, rfl⟩ := DM.pure_some h6
      obtain ⟨rfl, i', X, e2, fr, xs, hi', hX, hxl, hvr, _, hxk⟩ := rdN_sound hR h3
      rw [hi] at hi'; cases hi'
      obtain ⟨ns, rfl, rfl⟩ := bytesOf_some hb hvr
      obtain ⟨cs2, e3, fz2, m2, hg2, _, _, rfl⟩ := setMode_some h5
      rw [hg] at hg2; cases hg2
      have hcs := own_csize hO hm
      obtain ⟨X', fr', hX', hcr, hmd⟩ := hO
      rw [hX] at hX'; cases hX'
      simp only [List.length_map] at hxl
      simp only [VR] at hx
      obtain ⟨j, hj, rfl⟩ := hx
      rw [hi] at hj; cases hj
      have hfzr : FzR i fr fz := by
        cases m with
        | fixed => exact hmd.2.2.2
        | grow c => exact hmd.2.2
        | _ => cases hm
      have hsize : i.off + i.csize = X.size := by
        cases m with
        | fixed => obtain ⟨a, b, _⟩ := hmd; omega
        | grow c => exact hmd.1
        | _ => cases hm
      have hon : off + n ≤ cs.length := by
        obtain ⟨_, cs', _, _, _, hg', _, _, hl', _⟩ := rdN_some h3
        rw [hg] at hg'; cases hg'
        exact hl'
      have hlies := hC.byte e' e hbe' hbe X.size (i.off + off) n (by omega)
      have hv : (variablesAt ⟨i.blk, i.off + off, none⟩ e n).run P w = .ok true w := by
        simp [variablesAt, shape_row hX, hlies]
      have hlb := run_loadBytes (P := P) hX ns (i.off + off) .empty (fun k n hn => hxk k _ (by simp [hn]))
      rw [hxl] at hlb
      have hfreeze := freeze_row (o := i.off + off) (n := n) hX h0
      have hel : (elemOf t).run P w = .ok e w := by simp [elemOf, run_underlying hu]
      refine ⟨μ, w.freeze ⟨i.blk, i.off + off, none⟩ n, .string ⟨(ns.map fun n => UInt8.ofNat n.toNat).toArray⟩, ?_, ?_, Ext'.refl _ _ _, by simp only [VR], rfl⟩
      · show (do let n ← asInt (.int kk (n : Nat)); _ : Sem Value).run P w = _
        have c1 : ¬ ((n : Int) < 0) := by omega
        have c2 : ¬ ((n : Int) > IntKind.i64.max) := by simp only [IntKind.max, IntKind.bits, IntKind.signed]; simp; omega
        have c3 : ¬ ((n : Int) = 0) := by omega
        simp only [asInt, asIntOf, Sem.run_bind, Sem.run_pure, Result.andThen_ok, hts, Sem.run_ite, c1, c2, c3, if_false, hel, Int.toNat_natCast, hv, if_true, hlb, run_freeze]
        rfl
      · simp only [Tr.get_set_fun]
        refine hR.refreeze hg (by cases m <;> first | exact .inl rfl | exact .inr ⟨_, rfl⟩ | cases hm) hi hX (by rw [hfreeze]; simp [(Array.getElem?_eq_some_iff.1 hX).1]; rfl) (by rw [hfreeze]; exact ⟨rfl, rfl, rfl⟩) (by rw [hfreeze]; simp) (fun b hb => by rw [hfreeze]; simp only [Array.getElem?_setIfInBounds]; rw [if_neg (Ne.symm hb)]) ?_
        have hfin := FzR.freeze hfzr hfz h0 (Nat.le_trans hon hcs)
        simp only [beq_iff_eq] at hfin
        exact hfin
    | _ => exact (DM.fail_some h).elim

end Pd
