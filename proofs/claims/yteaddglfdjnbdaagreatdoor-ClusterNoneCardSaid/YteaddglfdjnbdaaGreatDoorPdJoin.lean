/-
  From a loaded program to what the evaluator is told of it; the contract of a function that runs from a fixed beginning; a summary made of it.
-/
import Derived.Test.YteaddglfdjnbdaaGreatDoorPdCall2
import Derived.ChangeArms
set_option linter.unusedVariables false
set_option linter.unusedSimpArgs false
namespace Pd
open Go
open Go.RowKit (Below)

variable {P : Program} {C : Ctx} {base : World}

/-! ### Types, functions -/

theorem get_list {α : Type} {g : Nat → Option α} {l : List α} {n : Nat} (h : (List.range n).map g = l.map some) {t : Nat} {a : α} (ht : t < n) (hg : g t = some a) : l[t]? = some a := by
  have h1 : ((List.range n).map g)[t]? = some (some a) := by rw [List.getElem?_map, List.getElem?_range ht]; simp [hg]
  rw [h, List.getElem?_map] at h1
  cases hl : l[t]? with
  | none => rw [hl] at h1; cases h1
  | some b => rw [hl] at h1; simp at h1; rw [h1]

/-- What is in a trie, up to n. -/
def upTo {α : Type} (n : Nat) (t : Tr α) (i : Nat) : Option α :=
  match Nat.blt i n with
  | true => t.get i
  | false => none

theorem upTo_list {α : Type} {t : Tr α} {l : List α} {n : Nat} (h : (List.range n).map t.get = l.map some) {i : Nat} {a : α} (hg : upTo n t i = some a) : l[i]? = some a := by
  unfold upTo at hg
  split at hg
  · rename_i hb; exact get_list h (of_blt hb) hg
  · cases hg

theorem info_of {i : Nat} {a : TypeInfo} (h : P.types.toList[i]? = some a) : P.info? i = some a := by
  have h' : P.types[i]? = some a := by simpa using h
  show P.toTables.info? i = some a
  unfold Tables.info?
  rw [if_pos (Array.getElem?_eq_some_iff.1 h').1]
  exact h'

/-! ### Flat types -/

mutual
def flatC (P : Program) : Nat → TypeId → Option (List FK)
  | 0, _ => none
  | d + 1, t =>
    match P.underlying t with
    | some .bool => some [.bool]
    | some (.int _) => some [.int]
    | some .string => some [.str]
    | some (.struct fs) => match P.stoodInHeld t with
      | false => flatFsC P d fs.toList 0
      | true => none
    | _ => none
def flatFsC (P : Program) : Nat → List Field → Nat → Option (List FK)
  | 0, _, _ => none
  | _ + 1, [], _ => some []
  | d + 1, f :: fs, off =>
    match flatC P d f.type, P.info? f.type with
    | some k1, some i =>
      match f.name != "_" && Nat.beq f.offset off && Nat.beq i.size k1.length with
      | true => (flatFsC P d fs (off + k1.length)).map (k1 ++ ·)
      | false => none
    | _, _ => none
end

theorem flat_ok : ∀ (d : Nat), (∀ t ks, flatC P d t = some ks → Flat P d t ks) ∧ (∀ fs off ks, flatFsC P d fs off = some ks → FlatFs P d fs off ks)
  | 0 => ⟨fun t ks h => by simp [flatC] at h, fun fs off ks h => by simp [flatFsC] at h⟩
  | d + 1 => by
    obtain ⟨ih1, ih2⟩ := flat_ok d
    constructor
    · intro t ks h
      unfold flatC at h
      unfold Flat
      split at h
      · rename_i hu; cases h; exact .inl ⟨hu, rfl⟩
      · rename_i k hu; cases h; exact .inr (.inl ⟨k, hu, rfl⟩)
      · rename_i hu; cases h; exact .inr (.inr (.inl ⟨hu, rfl⟩))
      · rename_i fs hu
        split at h
        · rename_i hs
          have hf : P.fieldsOf t = fs := by simp [Program.fieldsOf, hu]
          exact .inr (.inr (.inr ⟨by rw [hf]; exact hu, hs, by rw [hf]; exact ih2 _ _ _ h⟩))
        · cases h
      · cases h
    · intro fs off ks h
      cases fs with
      | nil => simp only [flatFsC, Option.some.injEq] at h; subst h; rfl
      | cons f fs =>
        unfold flatFsC at h
        split at h
        · rename_i k1 i h1 h2
          split at h
          · rename_i hg
            simp only [Bool.and_eq_true, bne_iff_ne, ne_eq] at hg
            cases h3 : flatFsC P d fs (off + k1.length) with
            | none => rw [h3] at h; cases h
            | some k2 =>
              rw [h3] at h
              cases h
              refine ⟨hg.1.1, Nat.beq_true hg.1.2, k1, k2, rfl, ih1 _ _ h1, fun w => ?_, ih2 _ _ _ h3⟩
              simp [Go.sizeOf, run_typeInfo h2, Nat.beq_true hg.2]
          · cases h
        · cases h

/-! ### Bytes -/

theorem bytes_lie {t u : TypeId} (ht : P.underlying t = some (.int .u8)) (hu : P.underlying u = some (.int .u8)) (hc : P.cellsOf t = 1) (count off n : Nat) (h : off + n ≤ count) : liesAt P P.depth t (count / P.cellsOf t) off u n = true := by
  have hd : P.depth = (2 * (P.types.size + Made.depth) + 1) + 1 := rfl
  rw [hc, Nat.div_one, hd]
  simp only [liesAt, Bool.or_eq_true]
  left
  rw [hd]
  have hs : sameLayout P (2 * (P.types.size + Made.depth) + 1 + 1) t u = true := by simp [sameLayout, ht, hu]
  simp [rowAt, hc, h, hs, Nat.mod_one]

/-! ### The packages' variables at the start -/

/-- A row of texts that is there at the start. -/
structure TextsAt (w : World) (g : Nat) (t : TypeId) (l : List (List UInt8)) : Prop where
  at_ : ∃ X fr, w.heap[g]? = some (.cells X t fr) ∧ ∀ (k : Nat) b, l[k]? = some b → X[k]? = some (.string ⟨b.toArray⟩)

/-- The beginning: one row of texts, at 0; names from n on. -/
def start (t : TypeId) (l : List (List UInt8)) (n : Nat) : St := { heap := .node (some (.cells (l.map .str) t (0, 0) .const)) .nil .nil, ctr := n, base := 0, log := [], inv := [], rc := none }

def mu0 : Mu := fun id => match id with | 0 => some ⟨0, 0, 0⟩ | _ => none

theorem start_get (t : TypeId) (l : List (List UInt8)) (n id : Nat) : (start t l n).heap.get id = if id = 0 then some (.cells (l.map .str) t (0, 0) .const) else none := by
  unfold start Tr.get
  cases h : Nat.beq id 0 with
  | true => rw [if_pos (Nat.beq_true h)]
  | false =>
    rw [if_neg (Nat.beq_false h)]
    cases Nat.beq (id % 2) 1 <;> rfl

theorem start_rep {w : World} {t : TypeId} {l : List (List UInt8)} {n : Nat} {μ : Mu} (h : TextsAt w 0 t l) (hμ : μ 0 = some ⟨0, 0, 0⟩) (hlt : ∀ id i, μ id = some i → i.blk < w.heap.size) : Rep w μ (start t l n).heap.get w := by
  refine ⟨Below.refl _ _, hlt, ?_, ?_, ?_, ?_⟩
  · intro id o ho _ _
    rw [start_get] at ho
    split at ho
    · rename_i hid
      subst hid
      cases ho
      obtain ⟨X, fr, hX, hk⟩ := h.at_
      refine ⟨_, hμ, X, fr, hX, fun k v hv => ?_, trivial⟩
      rw [List.getElem?_map] at hv
      cases hb : l[k]? with
      | none => rw [hb] at hv; cases hv
      | some b =>
        rw [hb] at hv
        cases hv
        exact ⟨.string ⟨b.toArray⟩, by simpa using hk k b hb, by simp only [VR], rfl⟩
    · cases ho
  · intro id o id' o' i i' ho _ _ _ hown
    rw [start_get] at ho
    split at ho
    · cases ho; exact hown.elim
    · cases ho
  · intro id o i ho hown
    rw [start_get] at ho
    split at ho
    · cases ho; exact hown.elim
    · cases ho
  · intro id cs e fz c hh
    rw [start_get] at hh
    split at hh
    · rcases hh with hh | hh <;> cases hh
    · rcases hh with hh | hh <;> cases hh

theorem start_fresh {t : TypeId} {l : List (List UInt8)} {n hi : Nat} {μ : Mu} (hn : 0 < n) (hμ : ∀ id, n ≤ id → μ id = none) : Fresh μ (start t l n).heap.get (start t l n).ctr hi := by
  intro id h1 h2
  have h1' : n ≤ id := h1
  refine ⟨hμ id h1', ?_⟩
  rw [start_get, if_neg (by omega)]

theorem mu0_gl (h : C.gl = 1) : GlOk C mu0 := by
  intro g hg
  rw [h] at hg
  have : g = 0 := by omega
  subst this
  exact ⟨0, rfl⟩

/-! ### A summary of a call that needs nothing but the start -/

def strsEq : List AV → List (List UInt8) → Bool
  | [], [] => true
  | .str a :: as, b :: bs => match streq a b with
    | true => strsEq as bs
    | false => false
  | _, _ => false

theorem strsEq_eq : ∀ {as : List AV} {bs : List (List UInt8)}, strsEq as bs = true → as = bs.map .str
  | [], [], _ => rfl
  | a :: as, b :: bs, h => by
    cases a <;> try (simp [strsEq] at h; done)
    rename_i x
    unfold strsEq at h
    split at h
    · rename_i hs
      rw [streq_eq] at hs
      have : x = b := by simpa using hs
      subst this
      rw [strsEq_eq h]
      rfl
    · cases h
  | [], b :: bs, h => by simp [strsEq] at h
  | a :: as, [], h => by cases a <;> simp [strsEq] at h

/-- A call without arguments that answers v, whatever the heap is behind the row of texts at 0. -/
def fixedPrim (l : List (List UInt8)) (v : AV) (args : List AV) : DM Res := fun s =>
  match args with
  | [] => match s.rc with
    | none => (do
        let (n, _, _, _) ← rowD 0
        let cs ← rdN 0 0 l.length
        DM.guard (strsEq cs l)
        DM.pure (.ret v) : DM Res) s
    | some _ => none
  | _ :: _ => none

theorem fixedPrim_mono (l : List (List UInt8)) (v : AV) (args : List AV) : Mono (fixedPrim l v args) := by
  have key : Mono (do
        let (n, _, _, _) ← rowD 0
        let cs ← rdN 0 0 l.length
        DM.guard (strsEq cs l)
        DM.pure (.ret v) : DM Res) := by
    repeat' first | exact Mono.pure _ | exact Mono.guard _ | exact Mono.rowD _ | exact Mono.rdN _ _ _ | refine Mono.bind ?_ (fun _ => ?_) | split | dsimp only
  intro s k h a s' hs
  unfold fixedPrim at hs ⊢
  cases args with
  | cons x xs => cases hs
  | nil =>
    simp only at hs ⊢
    rw [h.rc]
    cases hr : s.rc with
    | some p => rw [hr] at hs; cases hs
    | none =>
      rw [hr] at hs
      exact key s k h a s' hs

theorem fixedPrim_fn {f n m : Nat} {l : List (List UInt8)} (hC : ProgOk P C) (hP : ∀ b, PrimOk P C b) (hgl : C.gl = 1) (hm : 0 < m) (hrun : ∀ t, ∃ s', callD C n (.fn f) [] (start t l m) = some (.ret (.bool true), s')) {args : List AV} {s s' : St} {r : Res}
    (h : fixedPrim l (.bool true) args s = some (r, s')) {μ : Mu} {w : World} {vs : Array Value} (hR : Rep base μ s.heap.get w) (hg : ∃ c, μ 0 = some ⟨0, 0, c⟩) (hv : VRs μ args vs.toList)
    {kind : CallKind} {cs : List Frame} {x : Value} (hrc : RcOk μ kind cs x s.rc) : FnOut P base μ s s' w f vs kind cs x r := by
  unfold fixedPrim at h
  cases args with
  | cons a as => cases h
  | nil =>
    simp only [VRs] at hv
    obtain ⟨vs⟩ := vs
    simp only at hv
    subst hv
    simp only at h
    cases hr : s.rc with
    | some p => rw [hr] at h; cases h
    | none =>
      rw [hr] at h hrc
      simp only at h
      obtain ⟨⟨len, e, fz, md⟩, s1, h1, h2⟩ := DM.bind_some h
      obtain ⟨ts, s2, h3, h4⟩ := DM.bind_some h2
      obtain ⟨u, s3, h5, h6⟩ := DM.bind_some h4
      obtain ⟨hq, rfl⟩ := DM.guard_some h5
      obtain ⟨rfl, rfl⟩ := DM.pure_some h6
      obtain ⟨rfl, _⟩ := rowD_some h1
      obtain ⟨rfl, i, X, e', fr, xs, hi, hX, hl, hvr, _, hx⟩ := rdN_sound hR h3
      obtain ⟨c0, hc0⟩ := hg
      rw [hc0] at hi; cases hi
      have hts : TextsAt w 0 e' l := by
        refine ⟨X, fr, hX, fun k b hb => ?_⟩
        have hcs := strsEq_eq hq
        obtain ⟨y, hy, hr'⟩ := hvr.get (k := k) (x := .str b) (by rw [hcs, List.getElem?_map, hb]; rfl)
        simp only [VR] at hr'
        subst hr'
        simpa using hx k _ hy
      obtain ⟨sE, hE⟩ := hrun e'
      have hlt : ∀ id i, mu0 id = some i → i.blk < w.heap.size := by
        intro id i hid
        have : i = ⟨0, 0, 0⟩ := by
          cases id with
          | zero => cases hid; rfl
          | succ n => cases hid
        subst this
        exact (Array.getElem?_eq_some_iff.1 hX).1
      have hFn := (callD_ok hC (hP w) n).fn f [] _ _ sE hE (Nat.zero_le _) mu0 w #[] (start_rep hts rfl hlt) (mu0_gl hgl) (start_fresh hm fun id hid => by
        cases id with
        | zero => omega
        | succ k => rfl) rfl kind cs undef (by
        show RcOk mu0 kind cs undef none
        exact hrc)
      obtain ⟨ν, w', q1, q2, q3, q4⟩ := hFn
      have hrcE : sE.rc = none := q3
      have hbel := q1.below
      have hR' : Rep base μ s'.heap.get w' := hR.heap (hR.below.trans (hbel.mono hR.below.size)) hbel.size (fun id j hj => hbel.block _ (hR.lt id j hj))
      refine ⟨μ, w', hR', Ext'.refl _ _ _, RcLe.refl _, ?_⟩
      rcases q4 with ⟨a, y, ha, hy, _, hrun'⟩ | ⟨hen, frm, hsteps, hfn, hleft⟩
      · cases ha
        simp only [VR] at hy
        subst hy
        exact .inl ⟨.bool true, .bool true, rfl, by simp only [VR], rfl, hrun'⟩
      · refine .inr ⟨hen, frm, ?_, hfn, ?_⟩
        · rw [hrcE] at hsteps
          rw [hr]
          exact hsteps
        · obtain ⟨l1, l2, l3, fn, y, l4, l5, l6⟩ := hleft
          simp only [VR] at l6
          subst l6
          exact ⟨l1, l2, l3, fn, _, l4, l5, by simp only [VR]⟩

end Pd
