/-
  Regions that draw their order: what the evaluator's run in the order of the text says.
-/
import Derived.Test.YteaddglfdjnbdaaGreatDoorPdSeq
set_option linter.unusedVariables false
set_option linter.unusedSimpArgs false
namespace Pd
open Go

variable {P : Program} {C : Ctx} {base : World}

/-! ### The last that turns a thing -/

section last
variable {α : Type}
def lastS (S upd : Nat → Bool) (val : Nat → α) (init : α) : Nat → α
  | 0 => init
  | n + 1 => match S n && upd n with
    | true => val n
    | false => lastS S upd val init n

theorem lastS_congr {S S' upd : Nat → Bool} {val : Nat → α} {init : α} : ∀ {N : Nat}, (∀ n, n < N → (S n && upd n) = (S' n && upd n)) → lastS S upd val init N = lastS S' upd val init N
  | 0, _ => rfl
  | n + 1, h => by
    simp only [lastS]
    rw [h n (by omega), lastS_congr (fun m hm => h m (by omega))]

theorem lastS_none {S upd : Nat → Bool} {val : Nat → α} {init : α} : ∀ {N : Nat}, (∀ n, n < N → (S n && upd n) = false) → lastS S upd val init N = init
  | 0, _ => rfl
  | n + 1, h => by
    simp only [lastS]
    rw [h n (by omega)]
    exact lastS_none (fun m hm => h m (by omega))

/-- A run in the order of the text. -/
theorem lastS_text {upd : Nat → Bool} {val T : Nat → α} : ∀ {N : Nat}, (∀ n, n < N → T (n + 1) = match upd n with | true => val n | false => T n) → lastS (fun _ => true) upd val (T 0) N = T N
  | 0, _ => rfl
  | n + 1, h => by
    simp only [lastS, Bool.true_and]
    rw [h n (by omega), lastS_text (fun m hm => h m (by omega))]

theorem lastS_cut {S upd : Nat → Bool} {val : Nat → α} {init : α} {i : Nat} : ∀ {N : Nat}, i ≤ N → (∀ n, i ≤ n → n < N → (S n && upd n) = false) → lastS S upd val init N = lastS S upd val init i
  | 0, hi, _ => by have : i = 0 := by omega
                   subst this; rfl
  | n + 1, hi, h => by
    by_cases e : i = n + 1
    · subst e; rfl
    · simp only [lastS]
      rw [h n (by omega) (by omega)]
      exact lastS_cut (by omega) (fun m h1 h2 => h m h1 (by omega))

/-- The same turn it as in the order of the text ahead of i. -/
theorem lastS_agree {S upd : Nat → Bool} {val T : Nat → α} {i N : Nat} (hi : i ≤ N) (hT : ∀ n, n < N → T (n + 1) = match upd n with | true => val n | false => T n)
    (h1 : ∀ n, n < i → upd n = true → S n = true) (h2 : ∀ n, i ≤ n → n < N → S n = true → upd n = false) : lastS S upd val (T 0) N = T i := by
  rw [lastS_cut hi (fun n h3 h4 => by
    cases hs : S n with
    | false => rfl
    | true => simp [h2 n h3 h4 hs])]
  rw [← lastS_text (N := i) (fun n hn => hT n (by omega))]
  apply lastS_congr
  intro n hn
  cases hu : upd n with
  | false => simp
  | true => simp [h1 n hn hu]

theorem lastS_put {S S' upd : Nat → Bool} {val : Nat → α} {init : α} {i N : Nat} (hi : i < N) (hS : ∀ n, n ≠ i → S' n = S n) (hSi : S' i = true) (hu : upd i = true) (h : ∀ n, i < n → n < N → S n = true → upd n = false) :
    lastS S' upd val init N = val i := by
  rw [lastS_cut (i := i + 1) (by omega) (fun n h1 h2 => by
    rw [hS n (by omega)]
    cases hs : S n with
    | false => rfl
    | true => simp [h n (by omega) h2 hs])]
  simp [lastS, hSi, hu]

theorem lastS_skip {S S' upd : Nat → Bool} {val : Nat → α} {init : α} {i N : Nat} (hS : ∀ n, n ≠ i → S' n = S n) (hu : upd i = false) : lastS S' upd val init N = lastS S upd val init N := by
  apply lastS_congr
  intro n _
  by_cases e : n = i
  · subst e; simp [hu]
  · rw [hS n e]
end last

/-! ### What comes before -/

def befF (o : Oper) (acc : Array Nat) : Nat := o.after.foldl (fun s e => if Region.binds .any e then s ||| 2 ^ e.on ||| acc.getD e.on 0 else s) 0

theorem before_eq (ops : Array Oper) : Region.before ops = ops.toList.foldl (fun acc o => acc.push (befF o acc)) #[] := by
  unfold Region.before
  rw [← Array.foldl_toList]
  rfl

theorem befL : ∀ (l : List Oper) (acc : Array Nat), (l.foldl (fun acc o => acc.push (befF o acc)) acc).size = acc.size + l.length ∧ (∀ j, j < acc.size → (l.foldl (fun acc o => acc.push (befF o acc)) acc)[j]? = acc[j]?) ∧
    ∀ m o, l[m]? = some o → ∃ acc' : Array Nat, acc'.size = acc.size + m ∧ (∀ j, j < acc.size + m → acc'[j]? = (l.foldl (fun acc o => acc.push (befF o acc)) acc)[j]?) ∧ (l.foldl (fun acc o => acc.push (befF o acc)) acc)[acc.size + m]? = some (befF o acc')
  | [], acc => ⟨rfl, fun _ _ => rfl, fun m o h => by simp at h⟩
  | o :: l, acc => by
    obtain ⟨h1, h2, h3⟩ := befL l (acc.push (befF o acc))
    simp only [List.foldl_cons]
    refine ⟨by rw [h1]; simp; omega, fun j hj => ?_, fun m o' hm => ?_⟩
    · rw [h2 j (by simp; omega), Array.getElem?_push, if_neg (by omega)]
    · cases m with
      | zero =>
        simp at hm; subst hm
        refine ⟨acc, rfl, fun j hj => ?_, ?_⟩
        · rw [h2 j (by simp; omega), Array.getElem?_push, if_neg (by omega)]
        · rw [Nat.add_zero, h2 acc.size (by simp), Array.getElem?_push, if_pos rfl]
      | succ m =>
        obtain ⟨acc', a, b, c⟩ := h3 m o' (by simpa using hm)
        refine ⟨acc', by rw [a]; simp; omega, fun j hj => b j (by simp; omega), ?_⟩
        rw [← c]; congr 1; simp; omega

theorem befF_bit (o : Oper) (acc : Array Nat) (j : Nat) : Nat.testBit (befF o acc) j = true ↔ ∃ e ∈ o.after, Region.binds .any e = true ∧ (e.on = j ∨ Nat.testBit (acc.getD e.on 0) j = true) := by
  unfold befF
  rw [← Array.foldl_toList]
  have key : ∀ (l : List Edge) (s : Nat), Nat.testBit (l.foldl (fun s e => if Region.binds .any e then s ||| 2 ^ e.on ||| acc.getD e.on 0 else s) s) j = true ↔ Nat.testBit s j = true ∨ ∃ e ∈ l, Region.binds .any e = true ∧ (e.on = j ∨ Nat.testBit (acc.getD e.on 0) j = true) := by
    intro l
    induction l with
    | nil => intro s; simp
    | cons e l ih =>
      intro s
      simp only [List.foldl_cons]
      rw [ih]
      cases hb : Region.binds .any e with
      | false => simp [hb]
      | true =>
        simp only [if_true, Nat.testBit_or, Nat.testBit_two_pow, Bool.or_eq_true, decide_eq_true_eq, List.mem_cons, exists_eq_or_imp, hb, true_and, or_assoc]
  rw [key]
  simp

def bitsOf (ops : Array Oper) (n : Nat) : Nat := ((Region.before ops).toList[n]?).getD 0

/-- What an operation comes behind: those of its edges, and what these come behind. -/
theorem bits_edge {ops : Array Oper} {n : Nat} {o : Oper} (ho : ops[n]? = some o) (hb : bitsOf ops n < 2 ^ n) :
    (∀ e ∈ o.after, Region.binds .any e = true → e.on < n ∧ Nat.testBit (bitsOf ops n) e.on = true) ∧
    ∀ j, Nat.testBit (bitsOf ops n) j = true → ∃ e ∈ o.after, Region.binds .any e = true ∧ (e.on = j ∨ Nat.testBit (bitsOf ops e.on) j = true) := by
  obtain ⟨h1, h2, h3⟩ := befL ops.toList #[]
  obtain ⟨acc', a, b, c⟩ := h3 n o (by simpa using ho)
  simp only [List.size_toArray, List.length_nil, Nat.zero_add] at a b c
  have e1 : bitsOf ops n = befF o acc' := by
    unfold bitsOf
    rw [Array.getElem?_toList, before_eq, c]
    rfl
  have lt : ∀ j, Nat.testBit (bitsOf ops n) j = true → j < n := by
    intro j hj
    rcases Nat.lt_or_ge j n with h | h
    · exact h
    · have : bitsOf ops n < 2 ^ j := Nat.lt_of_lt_of_le hb (Nat.pow_le_pow_right (by omega) h)
      rw [Nat.testBit_lt_two_pow this] at hj
      cases hj
  have bit : ∀ e ∈ o.after, Region.binds .any e = true → e.on < n ∧ Nat.testBit (bitsOf ops n) e.on = true := by
    intro e he hbd
    have : Nat.testBit (bitsOf ops n) e.on = true := by rw [e1, befF_bit]; exact ⟨e, he, hbd, .inl rfl⟩
    exact ⟨lt _ this, this⟩
  refine ⟨bit, fun j hj => ?_⟩
  rw [e1, befF_bit] at hj
  obtain ⟨e, he, hbd, hh⟩ := hj
  refine ⟨e, he, hbd, hh.imp id fun hh => ?_⟩
  have hlt := (bit e he hbd).1
  have : acc'.getD e.on 0 = bitsOf ops e.on := by
    unfold bitsOf
    rw [Array.getElem?_toList, before_eq, ← b e.on hlt, Array.getD_eq_getD_getElem?]
  rw [← this]; exact hh

/-! ### What is hidden -/

theorem vis_hidden {mask : List Msk} {m : Msk} {p : Loc} (hm : m ∈ mask) (hc : m.cell = none) (h1 : m.lo ≤ p.id) (h2 : p.id < m.hi) : vis mask p = false := by
  have hh : m.has p.id = true := by simp [Msk.has, ble_of h1, blt_of h2]
  obtain ⟨id, c⟩ := p
  cases c with
  | none =>
    simp only [vis, Bool.not_eq_false']
    induction mask with
    | nil => cases hm
    | cons x l ih =>
      simp only [hid, Bool.or_eq_true]
      cases hm with
      | head => left; simp only at hh; simp [hh, hc]
      | tail _ hm => right; exact ih hm
  | some c =>
    simp only [vis, Bool.not_eq_false']
    induction mask with
    | nil => cases hm
    | cons x l ih =>
      simp only [hidSome, Bool.or_eq_true]
      cases hm with
      | head => left; simp only at hh; simp [hh, hc]
      | tail _ hm => right; exact ih hm

theorem hidEach_some {mask : List Msk} {id a b c : Nat} (h : hidEach mask id a b = true) (h1 : a ≤ c) (h2 : c < b) : hidSome mask id c (c + 1) = true := by
  induction mask with
  | nil => cases h
  | cons m l ih =>
    simp only [hidEach, hidSome, Bool.or_eq_true, Bool.and_eq_true] at h ⊢
    rcases h with ⟨h3, h4⟩ | h
    · left
      refine ⟨h3, ?_⟩
      cases hc : m.cell with
      | none => rfl
      | some q =>
        obtain ⟨x, y⟩ := q
        rw [hc] at h4
        simp only [Bool.or_eq_true, Nat.ble_eq, Bool.not_eq_true', Bool.and_eq_false_iff] at h4 ⊢
        rcases h4 with h4 | h4
        · left
          cases hx : Nat.ble x c with
          | false => rfl
          | true => have := of_ble hx; omega
        · right
          cases hx : Nat.ble (c + 1) y with
          | false => rfl
          | true => have := of_ble hx; omega
    · right; exact ih h

theorem hiddenAll_spec {mask : List Msk} {hi : Nat} {log : List Lg} (h : hiddenAll mask hi log = true) {p : Loc} (hp : tch log p = true) : hi ≤ p.id ∨ vis mask p = false := by
  induction log with
  | nil => cases hp
  | cons e log ih =>
    unfold hiddenAll at h
    split at h
    · rename_i hh
      rw [tch_cons, Bool.or_eq_true] at hp
      rcases hp with hp | hp
      · obtain ⟨id, c⟩ := p
        simp only [Lg.at, Bool.and_eq_true, beq_iff_eq] at hp
        obtain ⟨rfl, hp⟩ := hp
        rw [Bool.or_eq_true] at hh
        rcases hh with hh | hh
        · exact .inl (of_ble hh)
        · right
          unfold Lg.hidIn at hh
          cases hec : e.cell with
          | none =>
            rw [hec] at hh hp
            cases c with
            | none =>
              simp only [Bool.and_eq_true] at hh
              simp only [vis, hh.1, Bool.not_true]
            | some c => cases hp
          | some q =>
            obtain ⟨a, b⟩ := q
            rw [hec] at hh hp
            cases c with
            | none => cases hp
            | some c =>
              simp only [Bool.and_eq_true, Nat.ble_eq] at hp hh
              simp only [vis, hidEach_some hh hp.1 (of_blt hp.2), Bool.not_true]
      · exact ih h hp
    · cases h

theorem unordered_mem {bits : Nat} : ∀ {ks : List Kept} {i m : Nat} {k : Kept}, ks[m]? = some k → Nat.testBit bits (i + m) = false → k.lo ≠ k.hi → (⟨k.lo, k.hi, none⟩ : Msk) ∈ unordered bits ks i
  | [], i, m, k, h, _, _ => by simp at h
  | k' :: ks, i, 0, k, h, hb, hne => by
    simp at h; subst h
    unfold unordered
    simp only [Nat.add_zero] at hb
    rw [hb]
    simp only
    cases he : Nat.beq k'.lo k'.hi with
    | true => exact absurd (Nat.beq_true he) hne
    | false => exact List.mem_cons_self
  | k' :: ks, i, m + 1, k, h, hb, hne => by
    have ih := unordered_mem (bits := bits) (ks := ks) (i := i + 1) (m := m) (k := k) (by simpa using h) (by rw [← hb]; congr 1; omega) hne
    unfold unordered
    split
    · exact ih
    · split
      · exact ih
      · exact List.mem_cons_of_mem _ ih

theorem freeOf_spec {ops : Array Oper} {bits : Nat} {o : Oper} {k : Kept} : ∀ {ps : List Oper} {js : List Kept} {i m : Nat} {p : Oper} {j : Kept}, freeOf ops bits o k ps js i = true → ps[m]? = some p → js[m]? = some j → Nat.testBit bits (i + m) = false →
    apartD ops p o = true ∧ hiddenAll k.mask k.hi j.log = true ∧ hiddenAll j.mask j.hi k.log = true
  | [], _, _, _, _, _, _, h, _, _ => by simp at h
  | _ :: _, [], _, _, _, _, _, _, h, _ => by simp at h
  | p' :: ps, j' :: js, i, m, p, j, h, h1, h2, hb => by
    unfold freeOf at h
    cases m with
    | zero =>
      simp at h1 h2; subst h1 h2
      simp only [Nat.add_zero] at hb
      rw [hb] at h
      simp only at h
      split at h
      · rename_i hh
        simp only [Bool.and_eq_true] at hh
        exact ⟨hh.1.1, hh.1.2, hh.2⟩
      · cases h
    | succ m =>
      have hrec : freeOf ops bits o k ps js (i + 1) = true := by
        split at h
        · exact h
        · split at h
          · exact h
          · cases h
      exact freeOf_spec hrec (by simpa using h1) (by simpa using h2) (by rw [← hb]; congr 1; omega)

/-! ### The run -/

def DStep (C : Ctx) (K : CallFn) (ops : Array Oper) (st : Nat → St) (fs : Nat → Fr) (kp : Nat → Kept) (vl : Nat → AV) (n : Nat) (o : Oper) : Prop :=
  (fs n).put o.dst (vl n) = some (fs (n + 1)) ∧ bitsOf ops n < 2 ^ n ∧ freeOf ops (bitsOf ops n) o (kp n) ops.toList ((List.range n).map kp) 0 = true ∧
  ((wantedD (fs n) ops o = false ∧ vl n = undefA ∧ st (n + 1) = st n ∧ kp n = ⟨(st n).ctr, (st n).ctr, [], [⟨0, (st n).ctr, none⟩]⟩) ∨
   (wantedD (fs n) ops o = true ∧ drawOne C K (fs n) o (bitsOf ops n) ((List.range n).map kp) (st n) = some (vl n, st (n + 1), kp n)))

theorem drawD_trace {K : CallFn} {ops : Array Oper} : ∀ (l : List Oper) (i : Nat) (done : List Kept) (fr fr' : Fr) (s s' : St), ops.toList.drop i = l → i ≤ ops.size → done.length = i →
    drawD C K ops (Region.before ops).toList ops.toList l i done fr s = some (fr', s') →
    ∃ (st : Nat → St) (fs : Nat → Fr) (kp : Nat → Kept) (vl : Nat → AV), st i = s ∧ fs i = fr ∧ st ops.size = s' ∧ fs ops.size = fr' ∧ done = (List.range i).map kp ∧ ∀ n o, i ≤ n → ops[n]? = some o → DStep C K ops st fs kp vl n o
  | [], i, done, fr, fr', s, s', hl, hi, hd, h => by
    have hsz : i = ops.size := by
      have := congrArg List.length hl
      simp at this; omega
    unfold drawD at h
    obtain ⟨rfl, rfl⟩ := DM.pure_some h
    refine ⟨fun _ => s', fun _ => fr', fun n => (done[n]?).getD ⟨0, 0, [], []⟩, fun _ => undefA, rfl, rfl, rfl, rfl, ?_, ?_⟩
    · apply List.ext_getElem?
      intro n
      rw [List.getElem?_map]
      rcases Nat.lt_or_ge n i with hn | hn
      · rw [List.getElem?_range hn]; simp [List.getElem?_eq_getElem (show n < done.length by omega)]
      · rw [List.getElem?_eq_none (by omega), List.getElem?_eq_none (by simp; omega)]; rfl
    · intro n o hn ho
      have := (Array.getElem?_eq_some_iff.1 ho).1
      omega
  | o :: rest, i, done, fr, fr', s, s', hl, hi, hd, h => by
    have ho : ops[i]? = some o := by
      have : (ops.toList.drop i)[0]? = some o := by rw [hl]; rfl
      rw [List.getElem?_drop] at this
      simpa using this
    have hlt := (Array.getElem?_eq_some_iff.1 ho).1
    have hl' : ops.toList.drop (i + 1) = rest := by
      rw [← List.tail_drop, hl]; rfl
    have key : ∀ (v : AV) (fr1 : Fr) (s1 : St) (k : Kept), drawD C K ops (Region.before ops).toList ops.toList rest (i + 1) (done ++ [k]) fr1 s1 = some (fr', s') →
        (∀ (st : Nat → St) (fs : Nat → Fr) (kp : Nat → Kept) (vl : Nat → AV), st i = s → fs i = fr → st (i + 1) = s1 → fs (i + 1) = fr1 → vl i = v → kp i = k → done = (List.range i).map kp → DStep C K ops st fs kp vl i o) →
        ∃ (st : Nat → St) (fs : Nat → Fr) (kp : Nat → Kept) (vl : Nat → AV), st i = s ∧ fs i = fr ∧ st ops.size = s' ∧ fs ops.size = fr' ∧ done = (List.range i).map kp ∧ ∀ n o, i ≤ n → ops[n]? = some o → DStep C K ops st fs kp vl n o := by
      intro v fr1 s1 k hrec hone
      obtain ⟨st, fs, kp, vl, e1, e2, e3, e4, e5, e6⟩ := drawD_trace rest (i + 1) (done ++ [k]) fr1 fr' s1 s' hl' hlt (by simp [hd]) hrec
      have e5' : done = (List.range i).map kp ∧ kp i = k := by
        rw [List.range_succ, List.map_append] at e5
        have := List.append_inj e5 (by simp [hd])
        exact ⟨this.1, by simpa using this.2.symm⟩
      refine ⟨fun n => if n = i then s else st n, fun n => if n = i then fr else fs n, kp, fun n => if n = i then v else vl n, by simp, by simp, ?_, ?_, e5'.1, ?_⟩
      · simp only [if_neg (show ops.size ≠ i by omega)]; exact e3
      · simp only [if_neg (show ops.size ≠ i by omega)]; exact e4
      · intro n o' hn ho'
        by_cases e : n = i
        · subst e
          rw [ho] at ho'; cases ho'
          exact hone _ _ _ _ (by simp) (by simp) (by simp [e1]) (by simp [e2]) (by simp) e5'.2 e5'.1
        · have := e6 n o' (by omega) ho'
          unfold DStep at this ⊢
          simp only [if_neg e, if_neg (show n + 1 ≠ i by omega)]
          exact this
    have hbits : ((Region.before ops).toList[i]?).getD 0 = bitsOf ops i := rfl
    unfold drawD at h
    dsimp only at h
    rw [hbits] at h
    cases hw : wantedD fr ops o with
    | false =>
      rw [hw] at h
      dsimp only at h
      cases hp : fr.put o.dst undefA with
      | none => rw [hp] at h; cases h
      | some fr1 =>
        rw [hp] at h
        dsimp only at h
        split at h
        · rename_i hg
          simp only [Bool.and_eq_true] at hg
          refine key undefA fr1 s _ h ?_
          intro st fs kp vl a1 a2 a3 a4 a5 a6 a7
          refine ⟨by rw [a2, a4, a5]; exact hp, of_blt hg.1, by rw [a6, ← a7]; exact hg.2, .inl ⟨by rw [a2]; exact hw, a5, a3.trans a1.symm, by rw [a6, a1]⟩⟩
        · cases h
    | true =>
      rw [hw] at h
      dsimp only at h
      cases hd1 : drawOne C K fr o (bitsOf ops i) done s with
      | none => rw [hd1] at h; cases h
      | some q =>
        obtain ⟨v, s1, k⟩ := q
        rw [hd1] at h
        dsimp only at h
        cases hp : fr.put o.dst v with
        | none => rw [hp] at h; cases h
        | some fr1 =>
          rw [hp] at h
          dsimp only at h
          split at h
          · rename_i hg
            simp only [Bool.and_eq_true] at hg
            refine key v fr1 s1 k h ?_
            intro st fs kp vl a1 a2 a3 a4 a5 a6 a7
            refine ⟨by rw [a2, a4, a5]; exact hp, of_blt hg.1, by rw [a6, ← a7]; exact hg.2, .inr ⟨by rw [a2]; exact hw, ?_⟩⟩
            rw [a2, a1, a3, a5, a6, ← a7]; exact hd1
          · cases h

end Pd
