/-
  What an abstract state says of a world.
-/
import Derived.Test.YteaddglfdjnbdaaGreatDoorPdMono3
import Derived.Laws.Sem
import Derived.Laws.Cells
import Derived.Laws.World
import Derived.Laws.Strings
import Derived.Laws.Concat
import Derived.Below
set_option linter.unusedVariables false
namespace Pd
open Go
open Go.RowKit (Below)

/-- Where a block lies: in which block of the world, from which cell on, and how many cells it may take there. -/
structure Info where
  blk : Nat
  off : Nat
  csize : Nat

abbrev Mu := Nat → Option Info

def capOf (i : Info) (off : Nat) : Cap → Nat
  | .ex c => c
  | .op sz => (i.csize - off) / sz

mutual
def VR (μ : Mu) : AV → Value → Prop
  | .bool b, v => v = .bool b
  | .int k n, v => v = .int k n
  | .str s, v => v = .string ⟨s.toArray⟩
  | .nilp, v => v = .pointer none
  | .ptr id off, v => ∃ i, μ id = some i ∧ v = .pointer (some ⟨i.blk, i.off + off, none⟩)
  | .nils, v => v = .slice none 0 0
  | .slice id off len cap, v => ∃ i a, μ id = some i ∧ v = .slice (some a) len (capOf i off cap) ∧ len ≤ capOf i off cap ∧ (capOf i off cap ≠ 0 → a = ⟨i.blk, i.off + off, none⟩)
  | .map none, v => v = .map none
  | .map (some id), v => ∃ i, μ id = some i ∧ v = .map (some i.blk)
  | .func f a b, v => ∃ x y, v = .func (.func f) x y ∧ VRs μ a x.toList ∧ VRs μ b y.toList
  | .yield id, v => ∃ i, μ id = some i ∧ v = .func (.yield i.blk) #[] #[]
  | .nilf, v => v = .nilFunc
  | .iface t a, v => ∃ x, v = .iface t x ∧ VR μ a x
  | .nili, v => v = .nilIface
  | .agg cs, v => ∃ x, v = .agg x ∧ VRs μ cs x.toList
  | .tuple cs, v => ∃ x, v = .tuple x ∧ VRs μ cs x.toList
def VRs (μ : Mu) : List AV → List Value → Prop
  | [], l => l = []
  | a :: as, l => ∃ x xs, l = x :: xs ∧ VR μ a x ∧ VRs μ as xs
end

def MuLe (μ ν : Mu) : Prop := ∀ id i, μ id = some i → ν id = some i
theorem MuLe.refl (μ : Mu) : MuLe μ μ := fun _ _ h => h
theorem MuLe.trans {a b c : Mu} (h : MuLe a b) (k : MuLe b c) : MuLe a c := fun id i x => k id i (h id i x)

mutual
theorem VR.mono {μ ν : Mu} (h : MuLe μ ν) : ∀ (a : AV) (v : Value), VR μ a v → VR ν a v
  | .bool b, v, hv => by simpa [VR] using hv
  | .int k n, v, hv => by simpa [VR] using hv
  | .str s, v, hv => by simpa [VR] using hv
  | .nilp, v, hv => by simpa [VR] using hv
  | .ptr id off, v, hv => by
    simp only [VR] at hv ⊢
    obtain ⟨i, hi, rfl⟩ := hv
    exact ⟨i, h id i hi, rfl⟩
  | .nils, v, hv => by simpa [VR] using hv
  | .slice id off len cap, v, hv => by
    simp only [VR] at hv ⊢
    obtain ⟨i, a, hi, r⟩ := hv
    exact ⟨i, a, h id i hi, r⟩
  | .map none, v, hv => by simpa [VR] using hv
  | .map (some id), v, hv => by
    simp only [VR] at hv ⊢
    obtain ⟨i, hi, r⟩ := hv
    exact ⟨i, h id i hi, r⟩
  | .func f a b, v, hv => by
    simp only [VR] at hv ⊢
    obtain ⟨x, y, e, hx, hy⟩ := hv
    exact ⟨x, y, e, VRs.mono h a _ hx, VRs.mono h b _ hy⟩
  | .yield id, v, hv => by
    simp only [VR] at hv ⊢
    obtain ⟨i, hi, r⟩ := hv
    exact ⟨i, h id i hi, r⟩
  | .nilf, v, hv => by simpa [VR] using hv
  | .iface t a, v, hv => by
    simp only [VR] at hv ⊢
    obtain ⟨x, e, hx⟩ := hv
    exact ⟨x, e, VR.mono h a x hx⟩
  | .nili, v, hv => by simpa [VR] using hv
  | .agg cs, v, hv => by
    simp only [VR] at hv ⊢
    obtain ⟨x, e, hx⟩ := hv
    exact ⟨x, e, VRs.mono h cs _ hx⟩
  | .tuple cs, v, hv => by
    simp only [VR] at hv ⊢
    obtain ⟨x, e, hx⟩ := hv
    exact ⟨x, e, VRs.mono h cs _ hx⟩
theorem VRs.mono {μ ν : Mu} (h : MuLe μ ν) : ∀ (a : List AV) (v : List Value), VRs μ a v → VRs ν a v
  | [], v, hv => by simpa [VRs] using hv
  | a :: as, v, hv => by
    simp only [VRs] at hv ⊢
    obtain ⟨x, xs, e, hx, hxs⟩ := hv
    exact ⟨x, xs, e, VR.mono h a x hx, VRs.mono h as xs hxs⟩
end

/-- Lists, place by place. -/
theorem VRs.iff {μ : Mu} : ∀ {a : List AV} {v : List Value}, VRs μ a v ↔ a.length = v.length ∧ ∀ (k : Nat) (x : AV), a[k]? = some x → ∃ y : Value, v[k]? = some y ∧ VR μ x y
  | [], v => by
    simp only [VRs]
    constructor
    · rintro rfl; simp
    · rintro ⟨h, _⟩; cases v with
      | nil => rfl
      | cons => simp at h
  | a :: as, v => by
    simp only [VRs]
    constructor
    · rintro ⟨x, xs, rfl, hx, hxs⟩
      obtain ⟨hl, hk⟩ := VRs.iff.1 hxs
      refine ⟨by simp [hl], fun k y hy => ?_⟩
      cases k with
      | zero => simp at hy; subst hy; exact ⟨x, by simp, hx⟩
      | succ k => simp at hy ⊢; exact hk k y hy
    · rintro ⟨hl, hk⟩
      cases v with
      | nil => simp at hl
      | cons x xs =>
        obtain ⟨y, hy, hr⟩ := hk 0 a (by simp)
        simp at hy; subst hy
        refine ⟨x, xs, rfl, hr, VRs.iff.2 ⟨by simpa using hl, fun k z hz => ?_⟩⟩
        obtain ⟨y, hy, hr⟩ := hk (k + 1) z (by simpa using hz)
        exact ⟨y, by simpa using hy, hr⟩

theorem VRs.length {μ : Mu} {a : List AV} {v : List Value} (h : VRs μ a v) : a.length = v.length := (VRs.iff.1 h).1
theorem VRs.get {μ : Mu} {a : List AV} {v : List Value} (h : VRs μ a v) {k : Nat} {x : AV} (hx : a[k]? = some x) : ∃ y, v[k]? = some y ∧ VR μ x y := (VRs.iff.1 h).2 k x hx
theorem VRs.append {μ : Mu} : ∀ {a b : List AV} {v u : List Value}, VRs μ a v → VRs μ b u → VRs μ (a ++ b) (v ++ u)
  | [], b, v, u, h, k => by simp only [VRs] at h; subst h; simpa using k
  | a :: as, b, v, u, h, k => by
    simp only [VRs] at h
    obtain ⟨x, xs, rfl, hx, hxs⟩ := h
    simp only [List.cons_append, VRs]
    exact ⟨x, xs ++ u, rfl, hx, VRs.append hxs k⟩
theorem VRs.take {μ : Mu} {a : List AV} {v : List Value} (h : VRs μ a v) (n : Nat) : VRs μ (a.take n) (v.take n) := by
  obtain ⟨hl, hk⟩ := VRs.iff.1 h
  refine VRs.iff.2 ⟨by simp [hl], fun k x hx => ?_⟩
  rw [List.getElem?_take] at hx
  split at hx
  · rename_i hlt
    obtain ⟨y, hy, hr⟩ := hk k x hx
    exact ⟨y, by rw [List.getElem?_take, if_pos hlt]; exact hy, hr⟩
  · cases hx
theorem VRs.drop {μ : Mu} {a : List AV} {v : List Value} (h : VRs μ a v) (n : Nat) : VRs μ (a.drop n) (v.drop n) := by
  obtain ⟨hl, hk⟩ := VRs.iff.1 h
  refine VRs.iff.2 ⟨by simp [hl], fun k x hx => ?_⟩
  rw [List.getElem?_drop] at hx
  obtain ⟨y, hy, hr⟩ := hk _ x hx
  exact ⟨y, by rw [List.getElem?_drop]; exact hy, hr⟩
theorem VRs.splice {μ : Mu} {a b : List AV} {v u : List Value} (h : VRs μ a v) (k : VRs μ b u) (n : Nat) : VRs μ (Pd.splice a n b) (Pd.splice v n u) := by
  unfold Pd.splice
  rw [← k.length]
  exact (h.take n).append (k.append (h.drop _))

/-- A value's cells. -/
theorem VR.cells {μ : Mu} {a : AV} {v : Value} (h : VR μ a v) : VRs μ a.cells v.cells.toList := by
  cases a with
  | agg cs =>
    simp only [VR] at h
    obtain ⟨x, rfl, hx⟩ := h
    exact hx
  | map o => cases o with
    | none => simp only [VR] at h; subst h; exact ⟨_, _, rfl, by simp [VR], rfl⟩
    | some id => have h' := h; simp only [VR] at h; obtain ⟨i, _, rfl⟩ := h; exact ⟨_, _, rfl, h', rfl⟩
  | _ =>
    have h' := h
    simp only [VR] at h
    first
      | (subst h; exact ⟨_, _, rfl, h', rfl⟩)
      | (obtain ⟨i, _, rfl⟩ := h; exact ⟨_, _, rfl, h', rfl⟩)
      | (obtain ⟨i, a, _, rfl, _⟩ := h; exact ⟨_, _, rfl, h', rfl⟩)
      | (obtain ⟨x, y, rfl, _⟩ := h; exact ⟨_, _, rfl, h', rfl⟩)
      | (obtain ⟨x, rfl, _⟩ := h; exact ⟨_, _, rfl, h', rfl⟩)

theorem VR.one {μ : Mu} {a : AV} {v : Value} (h : VR μ a v) (ho : a.one = true) : v.oneCell' = true := by
  cases a with
  | agg => simp [AV.one] at ho
  | tuple => simp [AV.one] at ho
  | map o => cases o <;> simp only [VR] at h <;> first | (subst h; rfl) | (obtain ⟨i, _, rfl⟩ := h; rfl)
  | _ =>
    simp only [VR] at h
    first
      | (subst h; rfl)
      | (obtain ⟨i, _, rfl⟩ := h; rfl)
      | (obtain ⟨i, a, _, rfl, _⟩ := h; rfl)
      | (obtain ⟨x, y, rfl, _⟩ := h; rfl)
      | (obtain ⟨x, rfl, _⟩ := h; rfl)

theorem AV.cells_one {a : AV} (h : a.one = true) : a.cells = [a] := by cases a <;> simp_all [AV.one, AV.cells]

/-! ### What blocks are -/

def CellsR (μ : Mu) (C : Array Value) (off : Nat) (cs : List AV) : Prop := ∀ k v, cs[k]? = some v → ∃ x, C[off + k]? = some x ∧ VR μ v x ∧ v.one = true

/-- Cells that the world will not let be written are known to be such; where none may be written behind the end of the known ones alone, it is (1, 0). -/
def FzR (i : Info) (fr fz : Nat × Nat) : Prop :=
  (∀ k, k < i.csize → fr.1 ≤ i.off + k → i.off + k < fr.2 → fz.1 ≤ k ∧ k < fz.2) ∧ (fz.1 = fz.2 → fr.1 = fr.2) ∧ (fz.1 < fz.2 → fr.1 = fr.2 ∨ (i.off + fz.1 ≤ fr.1 ∧ fr.2 ≤ i.off + fz.2))

theorem FzR.none (i : Info) (fz : Nat × Nat) : FzR i (0, 0) fz := ⟨fun k _ _ h => by simp at h, fun _ => rfl, fun _ => .inl rfl⟩

def ModeR (i : Info) (n : Nat) (cs : List AV) (fz fr : Nat × Nat) : Mode → Prop
  | .fixed => i.off = 0 ∧ i.csize = n ∧ cs.length = n ∧ FzR i fr fz
  | .grow _ => i.off + i.csize = n ∧ cs.length ≤ i.csize ∧ FzR i fr fz
  | .ro _ => True
  | .const => True

def EntsR (μ : Mu) : List (AV × AV × Nat) → List MapEntry → Prop
  | [], l => l = []
  | (k, v, b) :: es, l => ∃ e l', l = e :: l' ∧ VR μ k e.key ∧ VR μ v e.val ∧ e.born = b ∧ EntsR μ es l'

def EnvR (μ : Mu) (env : Tr AV) (n : Nat) (tmps : Array Value) : Prop := tmps.size = n ∧ ∀ t, VR μ ((env.get t).getD undefA) ((tmps[t]?).getD undef)

def ObjR (μ : Mu) (w : World) (i : Info) : AObj → Prop
  | .cells cs e fz m => ∃ C fr, w.heap[i.blk]? = some (.cells C e fr) ∧ CellsR μ C i.off cs ∧ ModeR i C.size cs fz fr m
  | .chain => True
  | .map es clock => ∃ E, w.heap[i.blk]? = some (.map E clock) ∧ EntsR μ es E.toList
  | .mapIter m since seen stepped => i.off = 0 ∧ ∃ m', w.heap[i.blk]? = some (.mapIter m' since seen.toArray stepped) ∧ VR μ (.map m) (.map m')
  | .strIter s pos => i.off = 0 ∧ w.heap[i.blk]? = some (.stringIter ⟨s.toArray⟩ pos)
  | .loop st pending fn env n params assign body d => ∃ tmps di, w.heap[i.blk]? = some (.loop { state := st, pending, fn, tmps, params := params.toArray, assign, body, defers := di.blk }) ∧ EnvR μ env n tmps ∧ μ d = some di
  | .deferred => w.heap[i.blk]? = some (.deferred (some []))

def live (g : Nat → Option AObj) : AObj → Prop
  | .cells _ _ _ (.ro c) => g c = some .chain
  | _ => True

/-- Objects that are the run's own. -/
def owned : AObj → Prop
  | .cells _ _ _ .fixed => True
  | .cells _ _ _ (.grow _) => True
  | .cells _ _ _ _ => False
  | .chain => False
  | _ => True

/-- A row that grows, and an older prefix of it. -/
def kin (i : Info) (o : AObj) (i' : Info) (o' : AObj) : Prop :=
  ∃ c cs e fz cs' e' fz', o = .cells cs e fz (.grow (some c)) ∧ o' = .cells cs' e' fz' (.ro c) ∧ i'.off + cs'.length ≤ i.off + cs.length

structure Rep (base : World) (μ : Mu) (g : Nat → Option AObj) (w : World) : Prop where
  below : Below base.heap.size base w
  lt : ∀ id i, μ id = some i → i.blk < w.heap.size
  obj : ∀ id o, g id = some o → live g o → o ≠ .chain → ∃ i, μ id = some i ∧ ObjR μ w i o
  excl : ∀ id o id' o' i i', g id = some o → g id' = some o' → live g o' → o' ≠ .chain → owned o → id ≠ id' → μ id = some i → μ id' = some i' → i.blk ≠ i'.blk ∨ kin i o i' o'
  ge : ∀ id o i, g id = some o → owned o → μ id = some i → base.heap.size ≤ i.blk
  roc : ∀ id cs e fz c, (g id = some (.cells cs e fz (.ro c)) ∨ g id = some (.cells cs e fz (.grow (some c)))) → ∃ i, μ c = some i

theorem CellsR.mono {μ ν : Mu} (h : MuLe μ ν) {C : Array Value} {off : Nat} {cs : List AV} (hc : CellsR μ C off cs) : CellsR ν C off cs :=
  fun k v hv => let ⟨x, a, b, c⟩ := hc k v hv; ⟨x, a, VR.mono h _ _ b, c⟩
theorem EntsR.mono {μ ν : Mu} (h : MuLe μ ν) : ∀ {es : List (AV × AV × Nat)} {l : List MapEntry}, EntsR μ es l → EntsR ν es l
  | [], l, he => he
  | (k, v, b) :: es, l, he => let ⟨e, l', a, x, y, z, r⟩ := he; ⟨e, l', a, VR.mono h _ _ x, VR.mono h _ _ y, z, EntsR.mono h r⟩
theorem EnvR.mono {μ ν : Mu} (h : MuLe μ ν) {env : Tr AV} {n : Nat} {t : Array Value} (he : EnvR μ env n t) : EnvR ν env n t := ⟨he.1, fun i => VR.mono h _ _ (he.2 i)⟩

/-- The world's block is as it was, and more is known. -/
theorem ObjR.mono {μ ν : Mu} (h : MuLe μ ν) {w w' : World} {i : Info} {o : AObj} (hw : w'.heap[i.blk]? = w.heap[i.blk]?) (ho : ObjR μ w i o) : ObjR ν w' i o := by
  cases o with
  | cells cs e fz m => obtain ⟨C, fr, a, b, c⟩ := ho; exact ⟨C, fr, hw ▸ a, b.mono h, c⟩
  | chain => trivial
  | map es clock => obtain ⟨E, a, b⟩ := ho; exact ⟨E, hw ▸ a, b.mono h⟩
  | mapIter m since seen stepped => obtain ⟨z, m', a, b⟩ := ho; exact ⟨z, m', hw ▸ a, VR.mono h _ _ b⟩
  | strIter s pos => exact ⟨ho.1, hw.trans ho.2⟩
  | loop st pending fn env n params assign body d => obtain ⟨t, di, a, b, c⟩ := ho; exact ⟨t, di, hw ▸ a, b.mono h, h _ _ c⟩
  | deferred => exact hw.trans ho

/-- Nothing is known yet of the names lo .. hi-1. -/
def Fresh (μ : Mu) (g : Nat → Option AObj) (lo hi : Nat) : Prop := ∀ id, lo ≤ id → id < hi → μ id = none ∧ g id = none

/-- More is known, of the names lo .. hi-1 alone. -/
structure Ext' (μ ν : Mu) (lo hi : Nat) : Prop where
  le : MuLe μ ν
  out : ∀ id, ν id ≠ μ id → lo ≤ id ∧ id < hi

theorem Ext'.refl (μ : Mu) (lo hi : Nat) : Ext' μ μ lo hi := ⟨MuLe.refl μ, fun _ h => absurd rfl h⟩
theorem Ext'.trans {a b c : Mu} {lo mi hi : Nat} (h : Ext' a b lo mi) (k : Ext' b c mi hi) (h1 : lo ≤ mi) (h2 : mi ≤ hi) : Ext' a c lo hi :=
  ⟨h.le.trans k.le, fun id hne => by
    by_cases e : c id = b id
    · have := h.out id (by rw [← e]; exact hne); omega
    · have := k.out id e; omega⟩

def upd (μ : Mu) (id : Nat) (i : Info) : Mu := fun j => if j = id then some i else μ j
theorem upd_self (μ : Mu) (id : Nat) (i : Info) : upd μ id i id = some i := by simp [upd]
theorem upd_ne {μ : Mu} {id j : Nat} (i : Info) (h : j ≠ id) : upd μ id i j = μ j := by simp [upd, h]
theorem upd_le {μ : Mu} {id : Nat} (i : Info) (h : μ id = none) : MuLe μ (upd μ id i) := fun j x hx => by
  by_cases e : j = id
  · subst e; rw [h] at hx; cases hx
  · rw [upd_ne i e]; exact hx
theorem upd_ext {μ : Mu} {id : Nat} (i : Info) (h : μ id = none) : Ext' μ (upd μ id i) id (id + 1) :=
  ⟨upd_le i h, fun j hj => by
    by_cases e : j = id
    · subst e; omega
    · rw [upd_ne i e] at hj; exact absurd rfl hj⟩

theorem live_set {g : Nat → Option AObj} {id : Nat} {x : Option AObj} {o : AObj} (hg : ∀ c, g id = some .chain → x ≠ some .chain → c = id → False ∨ True)
    (h : live (fun j => if j = id then x else g j) o) (hx : x ≠ some .chain) : live g o := by
  cases o with
  | cells cs e fz m =>
    cases m with
    | ro c =>
      simp only [live] at h ⊢
      by_cases e : c = id
      · rw [if_pos e] at h; exact absurd h hx
      · rw [if_neg e] at h; exact h
    | _ => trivial
  | _ => trivial

/-- A world in which some blocks are as they were. -/
theorem Rep.heap {base : World} {μ : Mu} {g : Nat → Option AObj} {w w' : World} (h : Rep base μ g w) (hB : Below base.heap.size base w') (hs : w.heap.size ≤ w'.heap.size) (hw : ∀ id i, μ id = some i → w'.heap[i.blk]? = w.heap[i.blk]?) : Rep base μ g w' :=
  ⟨hB, fun id i hi => Nat.lt_of_lt_of_le (h.lt id i hi) hs,
   fun id o ho hl hc => let ⟨i, hi, r⟩ := h.obj id o ho hl hc; ⟨i, hi, r.mono (MuLe.refl μ) (hw id i hi)⟩, h.excl, h.ge, h.roc⟩

/-- A draw. -/
theorem Rep.drew {base : World} {μ : Mu} {g : Nat → Option AObj} {w : World} (h : Rep base μ g w) : Rep base μ g w.drew := h.heap h.below.drew (Nat.le_refl _) (fun _ _ _ => rfl)

/-- A new block. -/
theorem Rep.new {base : World} {μ : Mu} {g : Nat → Option AObj} {w : World} (h : Rep base μ g w) {id : Nat} (hμ : μ id = none) (hg : g id = none) {o : AObj} (hoc : o ≠ .chain) (hro : ∀ cs e fz c, (o = .cells cs e fz (.ro c) ∨ o = .cells cs e fz (.grow (some c))) → ∃ i, μ c = some i)
    {O : Obj} {i : Info} (hi : i.blk = w.heap.size) (ho : ObjR (upd μ id i) (w.alloc O) i o) : Rep base (upd μ id i) (fun j => if j = id then some o else g j) (w.alloc O) := by
  have hl : ∀ o', live (fun j => if j = id then some o else g j) o' → live g o' := fun o' hh => live_set (fun _ _ _ _ => .inr trivial) hh (by simp [hoc])
  have old : ∀ j x, μ j = some x → (w.alloc O).heap[x.blk]? = w.heap[x.blk]? := by
    intro j x hx
    have := h.lt j x hx
    simp only [World.alloc, Array.getElem?_push]
    rw [if_neg (by omega)]
  refine ⟨h.below.alloc h.below.size O, ?_, ?_, ?_, ?_, ?_⟩
  · intro j x hx
    by_cases e : j = id
    · subst e; rw [upd_self] at hx; cases hx; simp [hi]
    · rw [upd_ne i e] at hx; have := h.lt j x hx; simp; omega
  · intro j o' hj hlv hc
    by_cases e : j = id
    · subst e
      simp only [if_pos] at hj
      cases hj
      exact ⟨i, upd_self μ j i, ho⟩
    · simp only [if_neg e] at hj
      obtain ⟨x, hx, r⟩ := h.obj j o' hj (hl o' hlv) hc
      exact ⟨x, by rw [upd_ne i e]; exact hx, r.mono (upd_le i hμ) (old j x hx)⟩
  · intro a oa b ob ia ib ha hb hlb hcb hoa hab hia hib
    by_cases ea : a = id
    · subst ea
      rw [upd_self] at hia; cases hia
      rw [upd_ne i (Ne.symm hab)] at hib
      have := h.lt b ib hib
      exact .inl (by omega)
    · simp only [if_neg ea] at ha
      rw [upd_ne i ea] at hia
      by_cases eb : b = id
      · subst eb
        rw [upd_self] at hib; cases hib
        have := h.lt a ia hia
        exact .inl (by omega)
      · simp only [if_neg eb] at hb
        rw [upd_ne i eb] at hib
        exact h.excl a oa b ob ia ib ha hb (hl ob hlb) hcb hoa hab hia hib
  · intro a oa ia ha hoa hia
    by_cases ea : a = id
    · subst ea; rw [upd_self] at hia; cases hia; rw [hi]; exact h.below.size
    · simp only [if_neg ea] at ha; rw [upd_ne i ea] at hia; exact h.ge a oa ia ha hoa hia
  · intro a cs e fz c ha
    have key : ∃ x, μ c = some x := by
      by_cases ea : a = id
      · subst ea
        simp only [if_pos, Option.some.injEq] at ha
        exact hro cs e fz c ha
      · simp only [if_neg ea] at ha
        exact h.roc a cs e fz c ha
    obtain ⟨x, hx⟩ := key
    exact ⟨x, upd_le i hμ c x hx⟩

/-- A new mark of a row's older prefixes. -/
theorem Rep.newChain {base : World} {μ : Mu} {g : Nat → Option AObj} {w : World} (h : Rep base μ g w) {id : Nat} (hμ : μ id = none) (hg : g id = none) (i : Info) (hi : i.blk < w.heap.size) :
    Rep base (upd μ id i) (fun j => if j = id then some .chain else g j) w := by
  have hl : ∀ j o', g j = some o' → live (fun j => if j = id then some .chain else g j) o' → live g o' := by
    intro j o' hj hh
    cases o' with
    | cells cs e fz m =>
      cases m with
      | ro c =>
        simp only [live] at hh ⊢
        by_cases e' : c = id
        · subst e'
          obtain ⟨x, hx⟩ := h.roc j cs e fz c (.inl hj)
          rw [hμ] at hx; cases hx
        · rw [if_neg e'] at hh; exact hh
      | _ => trivial
    | _ => trivial
  refine ⟨h.below, ?_, ?_, ?_, ?_, ?_⟩
  · intro j x hx
    by_cases e : j = id
    · subst e; rw [upd_self] at hx; cases hx; exact hi
    · rw [upd_ne i e] at hx; exact h.lt j x hx
  · intro j o' hj hlv hc
    by_cases e : j = id
    · subst e; simp only [if_pos] at hj; cases hj; exact absurd rfl hc
    · simp only [if_neg e] at hj
      obtain ⟨x, hx, r⟩ := h.obj j o' hj (hl j o' hj hlv) hc
      exact ⟨x, upd_le i hμ j x hx, r.mono (upd_le i hμ) rfl⟩
  · intro a oa b ob ia ib ha hb hlb hcb hoa hab hia hib
    by_cases ea : a = id
    · subst ea; simp only [if_pos] at ha; cases ha; exact hoa.elim
    · by_cases eb : b = id
      · subst eb; simp only [if_pos] at hb; cases hb; exact absurd rfl hcb
      · simp only [if_neg ea] at ha
        simp only [if_neg eb] at hb
        rw [upd_ne i ea] at hia
        rw [upd_ne i eb] at hib
        exact h.excl a oa b ob ia ib ha hb (hl b ob hb hlb) hcb hoa hab hia hib
  · intro a oa ia ha hoa hia
    by_cases ea : a = id
    · subst ea; simp only [if_pos] at ha; cases ha; exact hoa.elim
    · simp only [if_neg ea] at ha; rw [upd_ne i ea] at hia; exact h.ge a oa ia ha hoa hia
  · intro a cs e fz c ha
    have key : ∃ x, μ c = some x := by
      by_cases ea : a = id
      · subst ea; simp at ha
      · simp only [if_neg ea] at ha; exact h.roc a cs e fz c ha
    obtain ⟨x, hx⟩ := key
    exact ⟨x, upd_le i hμ c x hx⟩

/-- A block goes. -/
theorem Rep.erase {base : World} {μ : Mu} {g : Nat → Option AObj} {w : World} (h : Rep base μ g w) (id : Nat) : Rep base μ (fun j => if j = id then none else g j) w := by
  have hl : ∀ o', live (fun j => if j = id then none else g j) o' → live g o' := fun o' hh => live_set (fun _ _ _ _ => .inr trivial) hh (by simp)
  refine ⟨h.below, h.lt, ?_, ?_, ?_, ?_⟩
  · intro j o' hj hlv hc
    by_cases e : j = id
    · simp [e] at hj
    · simp only [if_neg e] at hj; exact h.obj j o' hj (hl o' hlv) hc
  · intro a oa b ob ia ib ha hb hlb hcb hoa hab hia hib
    by_cases ea : a = id
    · simp [ea] at ha
    · by_cases eb : b = id
      · simp [eb] at hb
      · simp only [if_neg ea] at ha
        simp only [if_neg eb] at hb
        exact h.excl a oa b ob ia ib ha hb (hl ob hlb) hcb hoa hab hia hib
  · intro a oa ia ha hoa hia
    by_cases ea : a = id
    · simp [ea] at ha
    · simp only [if_neg ea] at ha; exact h.ge a oa ia ha hoa hia
  · intro a cs e fz c ha
    by_cases ea : a = id
    · simp [ea] at ha
    · simp only [if_neg ea] at ha; exact h.roc a cs e fz c ha

/-- A block is turned, in the world too. -/
theorem Rep.turn {base : World} {μ : Mu} {g : Nat → Option AObj} {w w' : World} (h : Rep base μ g w) {id : Nat} {o o' : AObj} {i : Info} (ho : g id = some o) (hi : μ id = some i) (hoc : o' ≠ .chain)
    (hB : Below base.heap.size base w') (hsz : w'.heap.size = w.heap.size) (hw : ∀ b, b ≠ i.blk → w'.heap[b]? = w.heap[b]?)
    (hobj : live (fun j => if j = id then some o' else g j) o' → ObjR μ w' i o')
    (hoth : ∀ j x xi, j ≠ id → g j = some x → live g x → x ≠ .chain → μ j = some xi → xi.blk = i.blk → live (fun j => if j = id then some o' else g j) x → ObjR μ w' xi x)
    (hown : owned o' → owned o)
    (hex : ∀ j x xi, j ≠ id → g j = some x → live g x → x ≠ .chain → μ j = some xi → xi.blk = i.blk → live (fun j => if j = id then some o' else g j) x →
      (owned o' → kin i o' xi x) ∧ (owned x → live (fun j => if j = id then some o' else g j) o' → kin xi x i o'))
    (hroc : ∀ cs e fz c, (o' = .cells cs e fz (.ro c) ∨ o' = .cells cs e fz (.grow (some c))) → ∃ x, μ c = some x) :
    Rep base μ (fun j => if j = id then some o' else g j) w' := by
  have hl : ∀ x, live (fun j => if j = id then some o' else g j) x → live g x := fun x hh => live_set (fun _ _ _ _ => .inr trivial) hh (by simp [hoc])
  refine ⟨hB, fun j x hx => hsz ▸ h.lt j x hx, ?_, ?_, ?_, ?_⟩
  · intro j x hj hlv hc
    by_cases e : j = id
    · subst e; simp only [if_pos] at hj; cases hj; exact ⟨i, hi, hobj hlv⟩
    · simp only [if_neg e] at hj
      obtain ⟨xi, hxi, r⟩ := h.obj j x hj (hl x hlv) hc
      refine ⟨xi, hxi, ?_⟩
      by_cases hb : xi.blk = i.blk
      · exact hoth j x xi e hj (hl x hlv) hc hxi hb hlv
      · exact r.mono (MuLe.refl μ) (hw _ hb)
  · intro a oa b ob ia ib ha hb hlb hcb hoa hab hia hib
    by_cases ea : a = id
    · subst ea
      simp only [if_pos, Option.some.injEq] at ha; subst ha
      simp only [if_neg (Ne.symm hab)] at hb
      rw [hi] at hia; cases hia
      by_cases hbk : ib.blk = i.blk
      · exact .inr ((hex b ob ib (Ne.symm hab) hb (hl ob hlb) hcb hib hbk hlb).1 hoa)
      · exact .inl (Ne.symm hbk)
    · simp only [if_neg ea] at ha
      by_cases eb : b = id
      · subst eb
        simp only [if_pos, Option.some.injEq] at hb; subst hb
        rw [hi] at hib; cases hib
        by_cases hbk : ia.blk = i.blk
        · have hla : ∀ gg, live gg oa := fun gg => by
            cases oa with
            | cells cs e fz m => cases m <;> first | trivial | exact hoa.elim
            | _ => trivial
          exact .inr ((hex a oa ia ea ha (hla g) (by rintro rfl; exact hoa.elim) hia hbk (hla _)).2 hoa hlb)
        · exact .inl hbk
      · simp only [if_neg eb] at hb
        exact h.excl a oa b ob ia ib ha hb (hl ob hlb) hcb hoa hab hia hib
  · intro a oa ia ha hoa hia
    by_cases ea : a = id
    · subst ea
      simp only [if_pos, Option.some.injEq] at ha; subst ha
      exact h.ge a o ia ho (hown hoa) hia
    · simp only [if_neg ea] at ha; exact h.ge a oa ia ha hoa hia
  · intro a cs e fz c ha
    by_cases ea : a = id
    · subst ea
      simp only [if_pos, Option.some.injEq] at ha
      exact hroc cs e fz c ha
    · simp only [if_neg ea] at ha; exact h.roc a cs e fz c ha

/-- Beside an own block lie only older prefixes of it. -/
theorem Rep.beside {base : World} {μ : Mu} {g : Nat → Option AObj} {w : World} (h : Rep base μ g w) {id : Nat} {o : AObj} {i : Info} (ho : g id = some o) (hi : μ id = some i) (hown : owned o)
    {j : Nat} {x : AObj} {xi : Info} (hne : j ≠ id) (hj : g j = some x) (hlv : live g x) (hc : x ≠ .chain) (hxi : μ j = some xi) (hb : xi.blk = i.blk) : kin i o xi x :=
  (h.excl id o j x i xi ho hj hlv hc hown (Ne.symm hne) hi hxi).resolve_left (fun e => e hb.symm)

theorem kin.not_owned {i i' : Info} {o o' : AObj} (h : kin i o i' o') : ¬ owned o' := by
  obtain ⟨c, cs, e, fz, cs', e', fz', _, rfl, _⟩ := h
  exact id

/-- An own block of which no older prefix may be looked at is turned, in the world too. -/
theorem Rep.set {base : World} {μ : Mu} {g : Nat → Option AObj} {w : World} (h : Rep base μ g w) {id : Nat} {o o' : AObj} (ho : g id = some o) (hown : owned o) (hk : ∀ c cs e fz, o = .cells cs e fz (.grow (some c)) → g c ≠ some .chain)
    {i : Info} (hi : μ id = some i) (hoc : o' ≠ .chain) (hk' : ∀ cs e fz c, (o' = .cells cs e fz (.ro c) ∨ o' = .cells cs e fz (.grow (some c))) → ∃ x, μ c = some x)
    {O : Obj} (hnew : ObjR μ { w with heap := w.heap.setIfInBounds i.blk O } i o') : Rep base μ (fun j => if j = id then some o' else g j) { w with heap := w.heap.setIfInBounds i.blk O } := by
  have none : ∀ j x xi, j ≠ id → g j = some x → live g x → x ≠ .chain → μ j = some xi → xi.blk = i.blk → False := by
    intro j x xi hne hj hlv hc hxi hb
    obtain ⟨c, cs, e, fz, cs', e', fz', rfl, rfl, _⟩ := h.beside ho hi hown hne hj hlv hc hxi hb
    exact hk c cs e fz rfl hlv
  refine h.turn ho hi hoc (h.below.trans ⟨rfl, rfl, rfl, by simp, fun k hk => by
      have := h.ge id o i ho hown hi
      simp only [Array.getElem?_setIfInBounds]; rw [if_neg (by omega)]⟩) (by simp) (fun b hb => by simp only [Array.getElem?_setIfInBounds]; rw [if_neg (Ne.symm hb)]) (fun _ => hnew) ?_ (fun _ => hown) ?_ hk'
  · intro j x xi hne hj hlv hc hxi hb _; exact (none j x xi hne hj hlv hc hxi hb).elim
  · intro j x xi hne hj hlv hc hxi hb _; exact (none j x xi hne hj hlv hc hxi hb).elim

/-- A row's frozen part is turned. -/
theorem Rep.refreeze {base : World} {μ : Mu} {g : Nat → Option AObj} {w w' : World} (h : Rep base μ g w) {id : Nat} {cs : List AV} {e : TypeId} {fz fz' : Nat × Nat} {m : Mode} (ho : g id = some (.cells cs e fz m)) (hm : m = .fixed ∨ ∃ c, m = .grow c)
    {i : Info} (hi : μ id = some i) {C : Array Value} {fr fr' : Nat × Nat} (hC : w.heap[i.blk]? = some (.cells C e fr)) (hC' : w'.heap[i.blk]? = some (.cells C e fr'))
    (hos : w'.os = w.os ∧ w'.tape = w.tape ∧ w'.output = w.output) (hsz : w'.heap.size = w.heap.size) (hw : ∀ b, b ≠ i.blk → w'.heap[b]? = w.heap[b]?) (hf : FzR i fr' fz') : Rep base μ (fun j => if j = id then some (.cells cs e fz' m) else g j) w' := by
  have hown : owned (.cells cs e fz m) := by rcases hm with rfl | ⟨c, rfl⟩ <;> trivial
  have hlv : live g (.cells cs e fz m) := by rcases hm with rfl | ⟨c, rfl⟩ <;> trivial
  refine h.turn ho hi (by simp) (h.below.trans ⟨hos.1, hos.2.1, hos.2.2, by omega, fun k hk => hw k (by have := h.ge id _ i ho hown hi; omega)⟩) hsz hw ?_ ?_ (fun _ => hown) ?_ ?_
  · intro _
    obtain ⟨x, hx, C1, fr1, hC1, hr, hmd⟩ := h.obj id _ ho hlv (by simp)
    rw [hi] at hx; cases hx
    rw [hC] at hC1; cases hC1
    refine ⟨C, fr', hC', hr, ?_⟩
    rcases hm with rfl | ⟨c, rfl⟩
    · obtain ⟨a, b, c, _⟩ := hmd; exact ⟨a, b, c, hf⟩
    · obtain ⟨a, b, _⟩ := hmd; exact ⟨a, b, hf⟩
  · intro j x xi hne hj hlx hc hxi hb _
    obtain ⟨c, cs1, e1, fz1, cs', e', fz2, h1, rfl, _⟩ := h.beside ho hi hown hne hj hlx hc hxi hb
    obtain ⟨y, hy, C1, fr1, hC1, hr, _⟩ := h.obj j _ hj hlx hc
    rw [hxi] at hy; cases hy
    rw [hb, hC] at hC1; cases hC1
    exact ⟨C, fr', hb ▸ hC', hr, trivial⟩
  · intro j x xi hne hj hlx hc hxi hb _
    have hkin := h.beside ho hi hown hne hj hlx hc hxi hb
    refine ⟨fun _ => ?_, fun hx => (hkin.not_owned hx).elim⟩
    obtain ⟨c, cs1, e1, fz1, cs', e', fz2, h1, rfl, hle⟩ := hkin
    cases h1
    exact ⟨c, cs, e, fz', cs', e', fz2, rfl, rfl, hle⟩
  · intro cs1 e1 fz1 c hh
    rcases hh with hh | hh
    · cases hh; rcases hm with hm | ⟨_, hm⟩ <;> cases hm
    · cases hh; exact h.roc id cs e fz c (.inr ho)

/-- A row that grew becomes an older prefix. -/
theorem Rep.toRo {base : World} {μ : Mu} {g : Nat → Option AObj} {w : World} (h : Rep base μ g w) {id : Nat} {cs : List AV} {e : TypeId} {fz fz' : Nat × Nat} {c0 : Option Nat} (ho : g id = some (.cells cs e fz (.grow c0)))
    {i : Info} (hi : μ id = some i) {c : Nat} (hc : c0 = none ∨ c0 = some c) (hμc : ∃ x, μ c = some x) : Rep base μ (fun j => if j = id then some (.cells cs e fz' (.ro c)) else g j) w := by
  refine h.turn ho hi (by simp) h.below rfl (fun _ _ => rfl) ?_ ?_ (fun hh => hh.elim) ?_ ?_
  · intro _
    obtain ⟨x, hx, C, fr, hC, hr, _⟩ := h.obj id _ ho trivial (by simp)
    rw [hi] at hx; cases hx
    exact ⟨C, fr, hC, hr, trivial⟩
  · intro j x xi hne hj hlx hcx hxi hb _
    obtain ⟨y, hy, r⟩ := h.obj j x hj hlx hcx
    rw [hxi] at hy; cases hy
    exact r
  · intro j x xi hne hj hlx hcx hxi hb _
    have hkin := h.beside ho hi trivial hne hj hlx hcx hxi hb
    exact ⟨fun hh => hh.elim, fun hx => (hkin.not_owned hx).elim⟩
  · intro cs1 e1 fz1 c1 hh
    rcases hh with hh | hh
    · cases hh; exact hμc
    · cases hh

/-- A row is taken on, under a new name, behind its older prefixes, in the same block of the world. -/
theorem Rep.adopt {base : World} {μ : Mu} {g : Nat → Option AObj} {w w' : World} (h : Rep base μ g w) {id : Nat} (hμ : μ id = none) (hg : g id = none) {cs : List AV} {e : TypeId} {fz : Nat × Nat} {c : Nat} {i : Info}
    (hib : base.heap.size ≤ i.blk) (hil : i.blk < w.heap.size) (hμc : ∃ x, μ c = some x) (hos : w'.os = w.os ∧ w'.tape = w.tape ∧ w'.output = w.output) (hsz : w'.heap.size = w.heap.size) (hw : ∀ b, b ≠ i.blk → w'.heap[b]? = w.heap[b]?)
    (hold : ∀ j x xi, g j = some x → live g x → x ≠ .chain → μ j = some xi → xi.blk = i.blk → ∃ cs' e' fz', x = .cells cs' e' fz' (.ro c) ∧ xi.off + cs'.length ≤ i.off + cs.length ∧ ObjR μ w' xi x)
    (ho : ObjR (upd μ id i) w' i (.cells cs e fz (.grow (some c)))) : Rep base (upd μ id i) (fun j => if j = id then some (.cells cs e fz (.grow (some c))) else g j) w' := by
  have hl : ∀ o', live (fun j => if j = id then some (.cells cs e fz (.grow (some c))) else g j) o' → live g o' := fun o' hh => live_set (fun _ _ _ _ => .inr trivial) hh (by simp)
  refine ⟨h.below.trans ⟨hos.1, hos.2.1, hos.2.2, by omega, fun k hk => hw k (by omega)⟩, ?_, ?_, ?_, ?_, ?_⟩
  · intro j x hx
    by_cases e : j = id
    · subst e; rw [upd_self] at hx; cases hx; exact hsz ▸ hil
    · rw [upd_ne i e] at hx; exact hsz ▸ h.lt j x hx
  · intro j o' hj hlv hcx
    by_cases e' : j = id
    · subst e'; simp only [if_pos] at hj; cases hj; exact ⟨i, upd_self μ j i, ho⟩
    · simp only [if_neg e'] at hj
      obtain ⟨x, hx, r⟩ := h.obj j o' hj (hl o' hlv) hcx
      refine ⟨x, upd_le i hμ j x hx, ?_⟩
      by_cases hb : x.blk = i.blk
      · obtain ⟨cs', e1, fz', rfl, _, r'⟩ := hold j o' x hj (hl o' hlv) hcx hx hb
        exact r'.mono (upd_le i hμ) rfl
      · exact r.mono (upd_le i hμ) (hw _ hb)
  · intro a oa b ob ia ib ha hb hlb hcb hoa hab hia hib
    by_cases ea : a = id
    · subst ea
      simp only [if_pos, Option.some.injEq] at ha; subst ha
      simp only [if_neg (Ne.symm hab)] at hb
      rw [upd_self] at hia; cases hia
      rw [upd_ne i (Ne.symm hab)] at hib
      by_cases hbk : ib.blk = i.blk
      · obtain ⟨cs', e1, fz', rfl, hle, _⟩ := hold b ob ib hb (hl ob hlb) hcb hib hbk
        exact .inr ⟨c, cs, e, fz, cs', e1, fz', rfl, rfl, hle⟩
      · exact .inl (Ne.symm hbk)
    · simp only [if_neg ea] at ha
      rw [upd_ne i ea] at hia
      by_cases eb : b = id
      · subst eb
        rw [upd_self] at hib; cases hib
        by_cases hbk : ia.blk = i.blk
        · have hla : live g oa := by
            cases oa with
            | cells cs e fz m => cases m <;> first | trivial | exact hoa.elim
            | _ => trivial
          obtain ⟨cs', e1, fz', rfl, _, _⟩ := hold a oa ia ha hla (by rintro rfl; exact hoa.elim) hia hbk
          exact hoa.elim
        · exact .inl hbk
      · simp only [if_neg eb] at hb
        rw [upd_ne i eb] at hib
        exact h.excl a oa b ob ia ib ha hb (hl ob hlb) hcb hoa hab hia hib
  · intro a oa ia ha hoa hia
    by_cases ea : a = id
    · subst ea; rw [upd_self] at hia; cases hia; exact hib
    · simp only [if_neg ea] at ha; rw [upd_ne i ea] at hia; exact h.ge a oa ia ha hoa hia
  · intro a cs1 e1 fz1 c1 ha
    have key : ∃ x, μ c1 = some x := by
      by_cases ea : a = id
      · subst ea
        simp only [if_pos, Option.some.injEq] at ha
        rcases ha with ha | ha
        · cases ha
        · cases ha; exact hμc
      · simp only [if_neg ea] at ha; exact h.roc a cs1 e1 fz1 c1 ha
    obtain ⟨x, hx⟩ := key
    exact ⟨x, upd_le i hμ c1 x hx⟩

end Pd
