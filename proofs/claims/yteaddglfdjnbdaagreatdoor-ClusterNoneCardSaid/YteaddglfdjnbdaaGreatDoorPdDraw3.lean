/-
  Regions that draw their order, in the machine: whatever the order, it comes to the run in the order of the text.
-/
import Derived.Test.YteaddglfdjnbdaaGreatDoorPdDraw2
set_option linter.unusedVariables false
set_option linter.unusedSimpArgs false
namespace Pd
open Go

variable {P : Program} {C : Ctx} {base : World}

section
variable {K : CallFn} {ops : Array Oper} {s s' : St} {f f' : Fr} {st : Nat → St} {fs : Nat → Fr} {kp : Nat → Kept} {vl : Nat → AV}

theorem Run.later (h : Run C K ops s s' f f' st fs kp vl) {i : Nat} (hi : i ≤ ops.size) {p : Loc} (hp : (st i).ctr ≤ p.id) : lv (st i).heap.get p = lv (st 0).heap.get p := by
  rw [← lastS_text (T := fun n => lv (st n).heap.get p) (N := i) (fun n hn => h.text p n (by omega))]
  refine lastS_none fun n hn => ?_
  simp only [Bool.true_and]
  cases hu : updp kp p n with
  | false => rfl
  | true =>
    exfalso
    have hf := h.fact n (by omega)
    have := h.ctr_le (i := n + 1) (j := i) (by omega) hi
    rcases updp_iff.1 hu with hu | ⟨u1, u2⟩
    · have := (hf.log p hu).1; have := hf.le; omega
    · have := hf.hi; omega

/-- How the machine stands when the operations of S have run. -/
structure LInv (base : World) (ops : Array Oper) (f : Fr) (st : Nat → St) (fs : Nat → Fr) (kp : Nat → Kept) (vl : Nat → AV) (b : Frame) (μ0 : Mu) (S : Nat → Bool) (h : Tr AObj) (μ : Mu) (w : World) (g : Fr) (a : Act) : Prop where
  heap : ∀ p, lv h.get p = heapS st kp ops.size S p
  rep : Rep base μ h.get w
  le : MuLe μ0 μ
  out : ∀ id, μ id ≠ μ0 id → ∃ j, j < ops.size ∧ S j = true ∧ (kp j).lo ≤ id ∧ id < (kp j).hi
  fr : FrR μ b g a
  same : FrSame f g
  env : ∀ t, g.env.get t = envS ops fs vl S t

theorem rcSame_eq {r r' : Option (AV × Bool)} (h : RcLe r r') (h' : rcSame r r' = true) : r' = r := by
  cases r with
  | none => exact h
  | some p =>
    obtain ⟨v, b⟩ := p
    obtain ⟨c, rfl⟩ := h
    simp only [rcSame, beq_iff_eq] at h'
    rw [h']

theorem draw_op (hC : TypesOk P C) (hK : KOk P C base K) (hr : Run C K ops s s' f f' st fs kp vl) {b : Frame} {μ0 μ : Mu} {S S' : Nat → Bool} {h : Tr AObj} {w : World} {g : Fr} {a : Act} {cs : List Frame} {x : Value} {k : List Item} {rest : List Nat}
    (hI : LInv base ops f st fs kp vl b μ0 S h μ w g a) (hg : GlOk C μ0) (hrc : RcOk μ0 b.kind cs x s.rc) (hF : Fresh μ0 s.heap.get s.ctr s'.ctr)
    (hS : Closed ops S) {i : Nat} {o : Oper} (ho : ops[i]? = some o) (hSi : S i = false) (hbef : ∀ j, Nat.testBit (bitsOf ops i) j = true → S j = true) (hS' : ∀ n, n ≠ i → S' n = S n) (hSi' : S' i = true) :
    ∃ h' μ' w' g' a', LInv base ops f st fs kp vl b μ0 S' h' μ' w' g' a' ∧
      Steps P (lone (b.atR a (.inRegion ops (i :: rest) :: k)) (setRc cs x s.rc) w) (lone (b.atR a' (.inRegion ops rest :: k)) (setRc cs x s.rc) w') := by
  have hi := (Array.getElem?_eq_some_iff.1 ho).1
  have hfact := hr.fact i hi
  obtain ⟨ci, crc, cb⟩ := hr.const (j := i) (by omega)
  have hsame : FrSame (fs i) g := (hr.same (j := i) (by omega)).symm.trans hI.same
  obtain ⟨hev, hwant⟩ := looks_ev (ops := ops) (o := o) hsame (fun t ht => by rw [hI.env t]; exact hr.looks hS ho hSi hbef ht)
  obtain ⟨d1, d2, d3, d4⟩ := hr.step i o ho
  have hdst : ∀ d, o.dst = some d → d < g.n := fun d hd => by rw [hsame.n]; exact (put_some d1).2.2 d hd
  have henv : ∀ {g' : Fr}, g.put o.dst (vl i) = some g' → ∀ t, g'.env.get t = envS ops fs vl S' t := by
    intro g' hp t
    rw [(put_some hp).2.1 t, hr.ranT hS ho hSi hS' hSi' t, hI.env t]
  have hw := wanted_eq hI.fr ops o
  rw [hwant] at hw
  have S_le : ∀ j, S j = true → S' j = true := fun j hj => by
    by_cases e : j = i
    · subst e; exact hSi'
    · rw [hS' j e]; exact hj
  rcases d4 with ⟨e1, e2, e3, e4⟩ | ⟨e1, e5⟩
  · rw [e1] at hw
    obtain ⟨g', hp⟩ := put_of (v := vl i) hdst
    have hstep := stepR_op_skip (P := P) (b := b) (a := a) (k := k) (cs := setRc cs x s.rc) (w := w) (ops := ops) (i := i) (rest := rest) (by simp [ho, hw])
    rw [ho] at hstep
    simp only [Option.bind_some] at hstep
    refine ⟨h, μ, w, g', _, ⟨?_, hI.rep, hI.le, ?_, hI.fr.put hp (by rw [e2]; exact undef_rel μ), hI.same.trans (put_some hp).1, henv hp⟩, .one hstep⟩
    · intro p
      rw [hr.ran hS hi hSi hS' hSi' p, hI.heap p]
      have : updp kp p i = false := by
        cases hu : updp kp p i with
        | false => rfl
        | true =>
          rcases updp_iff.1 hu with hu | ⟨u1, u2⟩
          · rw [e4] at hu; cases hu
          · rw [e4] at u1 u2; simp only at u1 u2; omega
      rw [this]
    · intro id hid
      obtain ⟨j, a1, a2, a3⟩ := hI.out id hid
      exact ⟨j, a1, S_le j a2, a3⟩
  · rw [e1] at hw
    obtain ⟨cm, s1, a1, a2, a3, a4, a5⟩ := drawOne_some e5
    simp only at a2 a4 a5
    have hmask : (kp i).mask = unordered (bitsOf ops i) (List.map kp (List.range i)) 0 ++ cm := by rw [a5]
    rw [← hmask] at a2
    let q : St := { heap := h, ctr := (st i).ctr, base := (st i).ctr, log := [], inv := (kp i).mask ++ s.inv, rc := s.rc }
    have hLe : Le ((st i).sub (kp i).mask) q := by
      refine ⟨rfl, rfl, crc.symm, Nat.le_refl _, ?_, ?_, fun id h1 h2 => ?_⟩
      · simp only [St.sub, q, ci]; exact InvLe.refl _
      · intro l hv v hl
        have hv' : vis (kp i).mask l = true := (vis_append hv).2
        have hl' : lv (st i).heap.get l = some v := hl
        show lv h.get l = some v
        rw [hI.heap l]
        rcases Nat.lt_or_ge l.id (st i).ctr with hlt | hge
        · rw [hr.sees hS hi hSi hbef hv' hlt]; exact hl'
        · have h0 := hr.later (i := i) (by omega) hge
          rw [h0] at hl'
          rcases Nat.lt_or_ge l.id (st ops.size).ctr with hlt2 | hge2
          · exfalso
            have := hr.ctr_le (i := 0) (j := i) (by omega) (by omega)
            have := (hF l.id (by rw [hr.s0] at this; omega) (by rw [hr.sN] at hlt2; exact hlt2)).2
            rw [hr.s0] at hl'
            simp only [lv, this] at hl'
            cases hc : l.cell <;> rw [hc] at hl' <;> simp [lvO] at hl'
          · rw [show heapS st kp ops.size S l = lv (st 0).heap.get l from lastS_none fun n hn => by rw [hr.beyond hge2 hn]; simp]
            exact hl'
      · have : ((st i).sub (kp i).mask).base = (st i).ctr := rfl
        rw [this] at h1
        have : ((st i).sub (kp i).mask).ctr = (st i).ctr := rfl
        rw [this] at h2
        omega
    obtain ⟨k', b1, b2⟩ := Mono.opD hK.mono (fs i) o _ q hLe _ _ a2
    have b1' : opD C K g o q = some (.val (vl i), k') := by rw [opD_congr hsame hev]; exact b1
    have hk'ctr : k'.ctr = (kp i).hi := by rw [b2.le.ctr, a5]
    have hFq : Fresh μ q.heap.get q.ctr k'.ctr := by
      intro id h1 h2
      have h1' : (kp i).lo ≤ id := by rw [hfact.lo]; exact h1
      rw [hk'ctr] at h2
      have hlo := hr.ctr_le (i := 0) (j := i) (by omega) (by omega)
      have hhi := hr.ctr_le (i := i + 1) (j := ops.size) (by omega) (by omega)
      rw [hr.s0] at hlo
      rw [hr.sN] at hhi
      have hfl := hfact.lo
      have hfh := hfact.hi
      obtain ⟨f1, f2⟩ := hF id (by omega) (by omega)
      constructor
      · by_cases hm : μ id = μ0 id
        · rw [hm]; exact f1
        · exfalso
          obtain ⟨j, c1, c2, c3, c4⟩ := hI.out id hm
          have hne : j ≠ i := by rintro rfl; rw [hSi] at c2; cases c2
          have fj := hr.fact j c1
          have := fj.lo
          have := fj.hi
          rcases Nat.lt_or_ge j i with hlt | hge
          · have := hr.ctr_le (i := j + 1) (j := i) (by omega) (by omega); omega
          · have := hr.ctr_le (i := i + 1) (j := j) (by omega) (by omega); omega
      · apply lvO_ext
        intro c
        have := hI.heap ⟨id, c⟩
        rw [hr.unborn hS hi hSi (p := ⟨id, c⟩) h1' h2, hr.s0] at this
        simp only [lv] at this
        show lvO (h.get id) c = _
        rw [this, f2]
    obtain ⟨ν, w', p1, p2, p3, y, p4, p5⟩ := op_step hC hK b1' (Nat.le_refl _) hI.rep (hg.mono hI.le) hI.fr hFq (RcOk.step hI.le (RcLe.refl _) hrc) (cs := cs) (x := x) (ops := ops) (i := i) (rest := rest) (k := k) ho hw
    have hkrc : k'.rc = s.rc := by
      refine rcSame_eq p3 ?_
      rw [b2.le.rc]
      have : s.rc = (st i).rc := crc.symm
      show rcSame s.rc s1.rc = true
      rw [this]; exact a3
    rw [hkrc] at p5
    obtain ⟨g', hp⟩ := put_of (v := vl i) hdst
    refine ⟨k'.heap, ν, w', g', _, ⟨?_, p1, hI.le.trans p2.le, ?_, (hI.fr.mono p2.le).put hp p4, hI.same.trans (put_some hp).1, henv hp⟩, p5⟩
    · intro p
      rw [hr.ran hS hi hSi hS' hSi' p]
      obtain ⟨l, c1, c2, c3, c4, c5⟩ := b2.log
      have c1' : (kp i).log = l := by rw [a5]; simp only; rw [c1]; simp [St.sub]
      have hst : (st (i + 1)).heap = s1.heap := by rw [a4]; rfl
      by_cases hr2 : (kp i).lo ≤ p.id ∧ p.id < (kp i).hi
      · rw [updp_iff.2 (.inr hr2), hst]
        have hown := b2.le.own p.id (by rw [b2.base]; show (st i).ctr ≤ p.id; rw [← hfact.lo]; exact hr2.1) (by have := hr2.2; rw [a5] at this; exact this)
        simp only [lv, hown]
      · have hout : p.id < ((st i).sub (kp i).mask).base ∨ s1.ctr ≤ p.id := by
          have e1 : ((st i).sub (kp i).mask).base = (kp i).lo := hfact.lo.symm
          have e2 : s1.ctr = (kp i).hi := by rw [a5]
          rw [e1, e2]; omega
        obtain ⟨u1, u2⟩ := c5 p hout
        cases ht : tch l p with
        | true =>
          rw [updp_iff.2 (.inl (by rw [c1']; exact ht)), hst]
          exact (u1 ht).symm
        | false =>
          have : updp kp p i = false := by
            cases hu : updp kp p i with
            | false => rfl
            | true =>
              rcases updp_iff.1 hu with hu | hu
              · rw [c1', ht] at hu; cases hu
              · exact absurd hu hr2
          rw [this]
          exact (u2 ht).2.trans (hI.heap p)
    · intro id hid
      by_cases hm : ν id = μ id
      · obtain ⟨j, a1, a2, a3⟩ := hI.out id (by rw [← hm]; exact hid)
        exact ⟨j, a1, S_le j a2, a3⟩
      · have := p2.out id hm
        refine ⟨i, hi, hSi', ?_, ?_⟩
        · rw [hfact.lo]; exact this.1
        · rw [← hk'ctr]; exact this.2

/-! ### All of them -/

def cnt (p : Nat → Bool) : Nat → Nat
  | 0 => 0
  | n + 1 => cnt p n + (if p n then 1 else 0)

theorem cnt_congr {p q : Nat → Bool} : ∀ {N : Nat}, (∀ n, n < N → p n = q n) → cnt p N = cnt q N
  | 0, _ => rfl
  | n + 1, h => by simp only [cnt]; rw [h n (by omega), cnt_congr (fun m hm => h m (by omega))]

theorem cnt_put {p q : Nat → Bool} {i : Nat} : ∀ {N : Nat}, i < N → p i = true → q i = false → (∀ n, n ≠ i → q n = p n) → cnt q N + 1 = cnt p N
  | 0, h, _, _, _ => by omega
  | n + 1, h, hp, hq, ho => by
    simp only [cnt]
    by_cases e : i = n
    · subst e
      rw [hp, hq, cnt_congr (p := q) (q := p) (fun m hm => ho m (by omega))]
      simp
    · have := cnt_put (N := n) (by omega) hp hq ho
      rw [ho n (by omega)]
      omega

theorem cnt_zero {p : Nat → Bool} : ∀ {N : Nat}, cnt p N = 0 → ∀ n, n < N → p n = false
  | 0, _, n, h => by omega
  | N + 1, hc, n, h => by
    simp only [cnt] at hc
    by_cases e : n = N
    · subst e
      cases hp : p n with
      | false => rfl
      | true => rw [hp] at hc; simp at hc
    · exact cnt_zero (N := N) (by omega) n (by omega)

theorem getD_listed {listed : Array Bool} {i : Nat} (h : listed.getD i true = false) : i < listed.size ∧ listed.getD i false = false := by
  rcases Nat.lt_or_ge i listed.size with hh | hh
  · refine ⟨hh, ?_⟩
    simp [hh] at h ⊢; exact h
  · simp [Array.getElem?_eq_none hh] at h

/-- Nothing is left where nothing can be listed any more. -/
def Complete (md : Region.Mode) (ops : Array Oper) : Prop := ∀ listed : Array Bool, listed.size = ops.size → Region.ready md ops listed = [] → ∀ n, n < ops.size → listed.getD n false = true

theorem Complete.of_bits {ops : Array Oper} (hbits : ∀ n o, ops[n]? = some o → bitsOf ops n < 2 ^ n) : Complete .any ops := by
  intro listed hsz hnil n
  induction n using Nat.strongRecOn with
  | _ n ihn =>
    intro hn
    cases hl : listed.getD n false with
    | true => rfl
    | false =>
      exfalso
      have hmem : n ∈ Region.ready .any ops listed := by
        rw [mem_ready]
        refine ⟨?_, ops[n], Array.getElem?_eq_getElem hn, fun e he hbd => ?_⟩
        · have : n < listed.size := by omega
          simp [this] at hl ⊢; exact hl
        · have := ((bits_edge (Array.getElem?_eq_getElem hn) (hbits n _ (Array.getElem?_eq_getElem hn))).1 e he hbd).1
          exact ihn e.on this (by omega)
      rw [hnil] at hmem; cases hmem

theorem Complete.of_order {md : Region.Mode} {ops : Array Oper} {listed : Array Bool} (hsz : listed.size = ops.size) (hnil : Region.ready md ops listed = []) : ∀ (l done : List Nat), orderOk md ops l done = true → (∀ j ∈ done, listed.getD j false = true) → ∀ n, n < ops.size → listed.getD n false = true
  | [], done, h, hd, n, hn => by
    simp only [orderOk, List.all_eq_true, List.mem_range] at h
    exact hd n (memN_iff.1 (h n hn))
  | i :: l, done, h, hd, n, hn => by
    unfold orderOk at h
    cases ho : ops.toList[i]? with
    | none => rw [ho] at h; cases h
    | some o =>
      rw [ho] at h
      simp only at h
      split at h
      · rename_i hall
        refine Complete.of_order hsz hnil l (i :: done) h ?_ n hn
        intro j hj
        cases hj with
        | head =>
          cases hl : listed.getD i false with
          | true => rfl
          | false =>
            exfalso
            have ho' : ops[i]? = some o := by simpa using ho
            have hi := (Array.getElem?_eq_some_iff.1 ho').1
            have hmem : i ∈ Region.ready md ops listed := by
              rw [mem_ready]
              refine ⟨?_, o, ho', fun e he hbd => ?_⟩
              · have : i < listed.size := by omega
                simp [this] at hl ⊢; exact hl
              · have := List.all_eq_true.1 hall e (by simpa using he)
                simp only [hbd, Bool.not_true, Bool.false_or] at this
                exact hd _ (memN_iff.1 this)
            rw [hnil] at hmem; cases hmem
        | tail _ hj => exact hd j hj
      · cases h

theorem Complete.of_orderOk {md : Region.Mode} {ops : Array Oper} {l : List Nat} (h : orderOk md ops l [] = true) : Complete md ops :=
  fun listed hsz hnil => Complete.of_order hsz hnil l [] h (by simp)

theorem binds_any {md : Region.Mode} {e : Edge} (h : Region.binds .any e = true) : Region.binds md e = true := by
  unfold Region.binds at h ⊢
  split at h <;> first | (exact absurd h (by decide)) | rfl

theorem draw_loop {md : Region.Mode} (hcomp : Complete md ops) (hC : TypesOk P C) (hK : KOk P C base K) (hr : Run C K ops s s' f f' st fs kp vl) {b : Frame} {μ0 : Mu} {cs : List Frame} {x : Value} {k : List Item} (hg : GlOk C μ0) (hrc : RcOk μ0 b.kind cs x s.rc) (hF : Fresh μ0 s.heap.get s.ctr s'.ctr) :
    ∀ (fuel t : Nat) (listed : Array Bool) (h : Tr AObj) (μ : Mu) (w : World) (g : Fr) (a : Act), listed.size = ops.size → cnt (fun n => !listed.getD n false) ops.size ≤ fuel → Closed ops (fun n => listed.getD n false) →
      LInv base ops f st fs kp vl b μ0 (fun n => listed.getD n false) h μ w g a →
      ∃ S h' μ' w' g' a', (∀ n, n < ops.size → S n = true) ∧ LInv base ops f st fs kp vl b μ0 S h' μ' w' g' a' ∧
        Steps P (lone (b.atR a (.inRegion ops (Region.linearise.go md ops fuel t listed []) :: k)) (setRc cs x s.rc) w) (lone (b.atR a' k) (setRc cs x s.rc) w') := by
  have hbits : ∀ n o, ops[n]? = some o → bitsOf ops n < 2 ^ n := fun n o ho => (hr.step n o ho).2.1
  intro fuel
  induction fuel with
  | zero =>
    intro t listed h μ w g a hsz hcnt hS hI
    refine ⟨_, h, μ, w, g, a, fun n hn => ?_, hI, ?_⟩
    · have := cnt_zero (p := fun n => !listed.getD n false) (N := ops.size) (Nat.le_zero.1 hcnt) n hn
      simpa using this
    · simp only [Region.linearise.go, List.reverse_nil]
      exact .one stepR_region_end
  | succ fuel ih =>
    intro t listed h μ w g a hsz hcnt hS hI
    simp only [Region.linearise.go]
    change ∃ S h' μ' w' g' a', _ ∧ _ ∧ Steps P (lone (b.atR a (.inRegion ops (match (Region.ready md ops listed)[t % (Region.ready md ops listed).length]? with
      | some i => Region.linearise.go md ops fuel (t / (Region.ready md ops listed).length) (listed.setIfInBounds i true) [i]
      | none => [].reverse) :: k)) (setRc cs x s.rc) w) _
    cases hx : (Region.ready md ops listed)[t % (Region.ready md ops listed).length]? with
    | none =>
      have hnil : Region.ready md ops listed = [] := by
        cases hr : Region.ready md ops listed with
        | nil => rfl
        | cons y ys =>
          rw [hr] at hx
          have hlt : t % (y :: ys).length < (y :: ys).length := Nat.mod_lt _ (by simp)
          simp at hx
          simp at hlt
          omega
      refine ⟨_, h, μ, w, g, a, ?_, hI, ?_⟩
      · exact hcomp listed hsz hnil
      · exact .one stepR_region_end
    | some i =>
      simp only []
      rw [linearise_go_acc, List.reverse_singleton, List.singleton_append]
      have hmem := List.mem_of_getElem? hx
      rw [mem_ready] at hmem
      obtain ⟨hun, o, ho, hall'⟩ := hmem
      have hall : ∀ e ∈ o.after, Region.binds .any e = true → listed.getD e.on false = true := fun e he hb => hall' e he (binds_any hb)
      obtain ⟨hil, hSi⟩ := getD_listed hun
      have hi := (Array.getElem?_eq_some_iff.1 ho).1
      have hbef : ∀ j, Nat.testBit (bitsOf ops i) j = true → listed.getD j false = true := by
        intro j hj
        obtain ⟨e, he, hbd, hh⟩ := (bits_edge ho (hbits i o ho)).2 j hj
        have hl := hall e he hbd
        rcases hh with rfl | hh
        · exact hl
        · have := ((bits_edge ho (hbits i o ho)).1 e he hbd).1
          exact hS e.on (by omega) hl j hh
      have hS' : ∀ n, n ≠ i → (listed.setIfInBounds i true).getD n false = listed.getD n false := fun n hn => getD_set_ne false (Ne.symm hn)
      have hSi' : (listed.setIfInBounds i true).getD i false = true := by simp [hil]
      obtain ⟨h', μ', w', g', a', hI', hst⟩ := draw_op hC hK hr hI hg hrc hF hS ho hSi hbef (S' := fun n => (listed.setIfInBounds i true).getD n false) hS' hSi' (k := k)
        (rest := Region.linearise.go md ops fuel (t / (Region.ready md ops listed).length) (listed.setIfInBounds i true) [])
      have hcl : Closed ops (fun n => (listed.setIfInBounds i true).getD n false) := by
        intro n hn hh j hj
        by_cases e : j = i
        · subst e; exact hSi'
        · show (listed.setIfInBounds i true).getD j false = true
          rw [hS' j e]
          by_cases e2 : n = i
          · subst e2; exact hbef j hj
          · have hh' : (listed.setIfInBounds i true).getD n false = true := hh
            rw [hS' n e2] at hh'
            exact hS n hn hh' j hj
      have hc := cnt_put (p := fun n => !listed.getD n false) (q := fun n => !(listed.setIfInBounds i true).getD n false) (N := ops.size) hi (by simp only [hSi]; rfl) (by simp only [hSi']; rfl) (fun n hn => by simp only [hS' n hn])
      obtain ⟨S, h2, μ2, w2, g2, a2, q1, q2, q3⟩ := ih (t / (Region.ready md ops listed).length) (listed.setIfInBounds i true) h' μ' w' g' a' (by simp [hsz]) (by omega) hcl hI'
      exact ⟨S, h2, μ2, w2, g2, a2, q1, q2, hst.trans q3⟩
end

theorem draw_sim (hC : TypesOk P C) {K : CallFn} (hK : KOk P C base K) {ops : Array Oper} {id : Nat} {cs : List Frame} {x : Value} {k : List Item} {b : Frame} {fr fr' : Fr} {s s' : St} {a : Act} {μ : Mu} {w : World}
    (hdep : departsOk ops = true) (h : drawD C K ops (Region.before ops).toList ops.toList ops.toList 0 [] fr s = some (fr', s')) (hb : s.base ≤ s.ctr) (hR : Rep base μ s.heap.get w) (hg : GlOk C μ) (hf : FrR μ b fr a) (hF : Fresh μ s.heap.get s.ctr s'.ctr) (hrc : RcOk μ b.kind cs x s.rc) :
    CodeOut P base μ s s' (lone (b.atR a (.code (.region id ops true) :: k)) (setRc cs x s.rc) w) b k cs x .normal fr' := by
  obtain ⟨st, fs, kp, vl, hr⟩ := Run.of hK.mono hb h
  have hS0 : ∀ n, (Array.replicate ops.size false).getD n false = false := fun n => by
    rcases Nat.lt_or_ge n ops.size with hh | hh
    · simp [hh]
    · simp [Array.getElem?_eq_none, hh]
  have hI : LInv base ops fr st fs kp vl b μ (fun n => (Array.replicate ops.size false).getD n false) s.heap μ w.drew fr a := by
    refine ⟨fun p => ?_, hR.drew, MuLe.refl _, fun id hid => absurd rfl hid, hf, FrSame.refl _, fun t => ?_⟩
    · rw [show heapS st kp ops.size (fun n => (Array.replicate ops.size false).getD n false) p = lv (st 0).heap.get p from lastS_none fun n hn => by simp only [hS0]; rfl, hr.s0]
    · rw [show envS ops fs vl (fun n => (Array.replicate ops.size false).getD n false) t = (fs 0).env.get t from lastS_none fun n hn => by simp only [hS0]; rfl, hr.f0]
  have hcnt : ∀ N, cnt (fun n => !(Array.replicate ops.size false).getD n false) N ≤ N := by
    intro N
    induction N with
    | zero => exact Nat.le_refl _
    | succ N ih => simp only [cnt]; split <;> omega
  have hsched : ∃ md t, Complete md ops ∧ Region.schedule (P.follows .mixedOrders) ops (w.tape w.drawn (.order b.fn id)) = Region.linearise md ops t := by
    unfold Region.schedule
    split
    · exact ⟨.any, _, Complete.of_bits fun n o ho => (hr.step n o ho).2.1, rfl⟩
    · rename_i hd
      unfold departsOk at hdep
      split at hdep
      · rename_i hst
        exfalso
        apply hd
        have key : ∀ l : List Oper, stays l = true → ∀ o ∈ l, ∀ e ∈ o.after, Region.binds .any e = true := by
          intro l
          induction l with
          | nil => intro _ o ho; cases ho
          | cons o l ih =>
            intro h p hp e he
            unfold stays at h
            split at h
            · rename_i hall
              cases hp with
              | head => exact List.all_eq_true.1 hall e (by simpa using he)
              | tail _ hp => exact ih h p hp e he
            · cases h
        have : Region.departs ops = false := by
          unfold Region.departs
          rw [Array.any_eq_false']
          intro o ho
          rw [Bool.not_eq_true, Array.any_eq_false']
          intro e he
          rw [key ops.toList hst o (by simpa using ho) e he]
          simp
        simp [this]
      · simp only [Bool.and_eq_true] at hdep
        split
        · exact ⟨.text, _, Complete.of_orderOk hdep.1, rfl⟩
        · exact ⟨.gc, _, Complete.of_orderOk hdep.2, rfl⟩
  obtain ⟨md, tn, hcomp, hsch⟩ := hsched
  obtain ⟨S, h', μ', w', g', a', q1, q2, q3⟩ := draw_loop hcomp hC hK hr hg hrc hF (k := k) ops.size tn (Array.replicate ops.size false) s.heap μ w.drew fr a (by simp) (hcnt _) (fun n _ hh => by simp only [hS0] at hh; cases hh) hI
  have hheap : h'.get = s'.heap.get := by
    apply lv_ext
    intro l
    rw [q2.heap l, ← hr.sN]
    have := lastS_text (T := fun n => lv (st n).heap.get l) (N := ops.size) (fun n hn => hr.text l n hn)
    rw [← this]
    exact lastS_congr fun n hn => by rw [q1 n hn]
  have henv : ∀ t, g'.env.get t = fr'.env.get t := by
    intro t
    rw [q2.env t, ← hr.fN]
    have := lastS_text (T := fun n => (fs n).env.get t) (N := ops.size) (fun n hn => hr.textT t n hn)
    rw [← this]
    exact lastS_congr fun n hn => by rw [q1 n hn]
  have hsame : FrSame fr' g' := by
    have := hr.same (j := ops.size) (Nat.le_refl _)
    rw [hr.fN] at this
    exact this.symm.trans q2.same
  have hrc' : s'.rc = s.rc := by
    have := (hr.const (j := ops.size) (Nat.le_refl _)).2.1
    rw [hr.sN] at this; exact this
  have hfr : FrR μ' b fr' a' := by
    have h0 := q2.fr
    refine ⟨by rw [h0.fn, hsame.fn], ⟨by rw [h0.env.1, hsame.n], fun t => by rw [← henv t]; exact h0.env.2 t⟩, by rw [← hsame.defers]; exact h0.defs, by rw [← hsame.round]; exact h0.round, by rw [← hsame.gl]; exact h0.gl⟩
  refine ⟨μ', a', w', by rw [← hheap]; exact q2.rep, ⟨q2.le, fun id' hid => ?_⟩, RcLe.of_eq hrc', hfr, ?_⟩
  · obtain ⟨j, c1, c2, c3, c4⟩ := q2.out id' hid
    have fj := hr.fact j c1
    have e1 := hr.ctr_le (i := 0) (j := j) (by omega) (by omega)
    have e2 := hr.ctr_le (i := j + 1) (j := ops.size) (by omega) (by omega)
    rw [hr.s0] at e1
    rw [hr.sN] at e2
    have := fj.lo
    have := fj.hi
    omega
  · rw [hrc']
    refine Steps.head stepR_region_draw ?_
    rw [hsch]
    simp only [Region.linearise]
    exact q3

end Pd
