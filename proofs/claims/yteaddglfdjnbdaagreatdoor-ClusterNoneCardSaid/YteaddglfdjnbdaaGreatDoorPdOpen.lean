/-
  Arguments that are read as data: the shape of slices and structs.
-/
import Derived.Test.YteaddglfdjnbdaaGreatDoorPdJoin
import Derived.Deep.Fields
import Derived.ChangeSame
import Derived.LaidLaws
import GoSem.ClaimJoined
import Derived.OpenShut
set_option linter.unusedVariables false
set_option linter.unusedSimpArgs false
namespace Pd
open Go Go.ChangeShapes Go.WideShapes Go.Deep

section
variable {H : Type} {enc : TypeId × Value → H} {P : Program} {w : World} {base : Nat} {held : Bool} {spare : Nat → Bool}

/-- A slice that is read as data, to its capacity: nil, or a row that is there. -/
theorem slice_shape {t e : TypeId} {fuel : Nat} {cs : List Value} {x : DataW H × List MemPlace} (ht : P.underlying t = some (.slice e)) (hc : 0 < P.cellsOf e) (h : DataW.trod enc P w base (fun _ => true) held fuel t cs = some x) :
    cs = [.slice none 0 0] ∨ ∃ a len cap, cs = [.slice (some a) len cap] ∧ len ≤ cap ∧ (cap ≠ 0 → a.spot = none ∧ a.block < w.heap.size) := by
  rcases DataW.trod_slice ht h with ⟨rfl, _⟩ | ⟨a, len, cap, elems, rest, n, _, rfl, _, _, hl, _, hlen, hel, hsp, _⟩
  · exact .inl rfl
  · refine .inr ⟨a, len, cap, rfl, hl, fun hcap => ?_⟩
    obtain ⟨hrl, hrest⟩ := hsp rfl
    have key : ∀ y, (w.cells? base a (P.cellsOf e)).bind (DataW.trod enc P w base (fun _ => true) held n e) = some y → a.spot = none ∧ a.block < w.heap.size := by
      intro y hh
      rw [Option.bind_eq_some_iff] at hh
      obtain ⟨cs', hcs, _⟩ := hh
      obtain ⟨_, hlen', hat⟩ := World.cells?_some hcs
      have h0 := hat 0 hc
      have hcell : ∃ v, w.cell? a = some v := ⟨_, (show w.cell? a = _ from h0).trans (List.getElem?_eq_getElem (by omega))⟩
      obtain ⟨v, hv⟩ := hcell
      refine ⟨World.cell?_spot hv, ?_⟩
      unfold World.cell? at hv
      split at hv
      · rename_i hh; exact (Array.getElem?_eq_some_iff.1 hh).1
      · cases hv
    have hadd : a.add 0 = a := by simp [Addr.add]
    rcases Nat.lt_or_ge 0 len with h0 | h0
    · have := hel 0 h0
      rw [Nat.zero_mul, hadd] at this
      exact key _ (this.trans (List.getElem?_eq_getElem (by omega)))
    · have hl0 : len = 0 := by omega
      subst hl0
      have := hrest 0 (by omega)
      rw [Nat.zero_add, Nat.zero_mul, hadd] at this
      exact key _ (this.trans (List.getElem?_eq_getElem (by omega)))

/-- A struct of one cell a field: its cells, each with its reading. -/
theorem fields_of {t : TypeId} {fs : Array Field} {fuel : Nat} {cs : List Value} {x : DataW H × List MemPlace} (hs : P.underlying t = some (.struct fs)) (hone : oneCellFields P fs = true) (hC : P.cellsOf t = fs.size)
    (h : DataW.trod enc P w base spare held fuel t cs = some x) : cs.length = fs.size ∧ ∀ (j : Nat) (f : Field), fs[j]? = some f → ∃ v y n, cs[j]? = some v ∧ DataW.trod enc P w base spare held n f.type [v] = some y := by
  obtain ⟨xs, n, _, _, hlen, hxl, hf⟩ := DataW.trod_struct hs h
  rw [hC] at hlen
  refine ⟨hlen, fun j f hj => ?_⟩
  obtain ⟨ho, hk⟩ := hone_of hone j f hj
  have hjl : j < fs.size := (Array.getElem?_eq_some_iff.1 hj).1
  have h1 := hf j f hj
  rw [ho, hk, List.drop_eq_getElem_cons (by omega)] at h1
  exact ⟨cs[j]'(by omega), xs[j]'(by omega), n, List.getElem?_eq_getElem (by omega), h1.trans (List.getElem?_eq_getElem (by omega))⟩

/-- An abstract value for a slice that was handed in. -/
def slA (id : Nat) : Option (Nat × Nat × Nat) → AV
  | none => .nils
  | some q => .slice id q.1 q.2.1 (.ex q.2.2)

/-- What its name stands for. -/
def slI : Value → Info
  | .slice (some a) _ _ => ⟨a.block, 0, 0⟩
  | _ => ⟨0, 0, 0⟩

theorem slice_val {t e : TypeId} {fuel : Nat} {v : Value} {x : DataW H × List MemPlace} (ht : P.underlying t = some (.slice e)) (hc : 0 < P.cellsOf e) (h : DataW.trod enc P w base (fun _ => true) held fuel t [v] = some x) (hw : 0 < w.heap.size) :
    ∃ i : Info, i.blk < w.heap.size ∧ ∃ q, ∀ μ : Mu, ∀ id, μ id = some i → VR μ (slA id q) v := by
  rcases slice_shape ht hc h with hh | ⟨a, len, cap, hh, hl, hcap⟩
  · simp only [List.cons.injEq, and_true] at hh
    subst hh
    exact ⟨⟨0, 0, 0⟩, hw, none, fun μ id _ => by simp only [slA, VR]⟩
  · simp only [List.cons.injEq, and_true] at hh
    subst hh
    by_cases h0 : cap = 0
    · subst h0
      refine ⟨⟨0, 0, 0⟩, hw, some (0, len, 0), fun μ id hi => ?_⟩
      simp only [slA, VR, capOf]
      exact ⟨_, a, hi, rfl, hl, fun hh => absurd rfl hh⟩
    · obtain ⟨h1, h2⟩ := hcap h0
      refine ⟨⟨a.block, 0, 0⟩, h2, some (a.off, len, cap), fun μ id hi => ?_⟩
      simp only [slA, VR, capOf]
      refine ⟨_, a, hi, rfl, hl, fun _ => ?_⟩
      obtain ⟨b, o, sp⟩ := a
      simp only at h1
      subst h1
      simp

end

/-! ### The packages' variables, as a row lists them -/

theorem laid_reads {P : Program} {w : World} : ∀ {l : List (String × DataW Unit)} {ps : List MemPlace}, DataW.LaidVars P w l ps → ∀ n d, (n, d) ∈ l →
    ∃ g t cs fuel p, P.globalNamed n = some g ∧ (P.globals[g]?).map (·.type) = some t ∧ w.var? P n = some cs ∧ DataW.trod (fun _ => ()) P w 0 (fun _ => true) false fuel t cs.toList = some (d, p)
  | [], _, _, _, _, hm => by cases hm
  | (n', d') :: r, ps, h, n, d, hm => by
    obtain ⟨g, t, cs, fuel, p, q, h1, h2, h3, h4, h5, _⟩ := h
    rcases List.mem_cons.1 hm with e | e
    · cases e
      exact ⟨g, t, cs, fuel, p, h1, h2, h3, h4⟩
    · exact laid_reads h5 n d e

/-- An array of texts, as a row lists it. -/
theorem texts_of_laid {P : Program} {w : World} {laid : List (String × DataW Unit)} {name : String} {l : List (List UInt8)} {t e : TypeId} (hl : laidMet P laid w) (hm : (name, DataW.agg (l.map fun b => .lit (.string b))) ∈ laid) (hg : P.globalNamed name = some 0)
    (ht : (P.globals[0]?).map (·.type) = some t) (hu : P.underlying t = some (.array l.length e)) (he : P.underlying e = some .string) (hc : P.cellsOf e = 1) (hne : 0 < l.length) : ∃ u, TextsAt w 0 u l := by
  obtain ⟨ps, hv, _, _⟩ := hl
  obtain ⟨g, t', cs, fuel, p, h1, h2, h3, h4⟩ := laid_reads hv _ _ hm
  obtain rfl := Option.some.inj (hg.symm.trans h1)
  obtain rfl := Option.some.inj (ht.symm.trans h2)
  obtain ⟨xs, m1, rfl, hx1, hlen, hxl, hel⟩ := DataW.trod_array hu h4
  have hcell : ∀ (k : Nat) b, l[k]? = some b → w.cell? ⟨0, k, none⟩ = some (.string ⟨b.toArray⟩) := by
    intro k b hb
    have hk : k < l.length := (List.getElem?_eq_some_iff.1 hb).1
    have h5 := hel k hk
    simp only [Prod.mk.injEq, DataW.agg.injEq] at hx1
    have hxk : ∃ y, xs[k]? = some y := ⟨xs[k]'(by omega), List.getElem?_eq_getElem (by omega)⟩
    obtain ⟨y, hy⟩ := hxk
    rw [hy] at h5
    obtain ⟨s, hs, rfl, _⟩ := DataW.trod_string he h5
    have h6 : (xs.map (·.1))[k]? = some (DataW.lit (.string s.data.toList) : DataW Unit) := by simp [hy]
    rw [← hx1.1, List.getElem?_map, hb] at h6
    simp only [Option.map_some, Option.some.injEq, DataW.lit.injEq, Lit.string.injEq] at h6
    have hs2 : s = ⟨b.toArray⟩ := by
      obtain ⟨⟨sl⟩⟩ := s
      simp only at h6
      subst h6
      rfl
    subst hs2
    rw [hc] at hs
    have h7 : cs[k]? = some (.string ⟨b.toArray⟩) := by
      have := congrArg (·[0]?) hs
      simpa [List.getElem?_take, List.getElem?_drop] using this
    have h8 := World.var?_cell h1 h3 k
    rw [h7] at h8
    simpa using h8
  have h0 := hcell 0 l[0] (List.getElem?_eq_getElem hne)
  unfold World.cell? at h0
  split at h0
  · rename_i C u fr hC
    refine ⟨u, C, fr, hC, fun k b hb => ?_⟩
    have hk := hcell k b hb
    unfold World.cell? at hk
    simp only [hC] at hk
    simpa using hk
  · cases h0

end Pd
