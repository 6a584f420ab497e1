/-
  ClusterNone: the row's closed facts, one by one. Written by a program of mine (gen_facts.py).
-/
import Derived.Test.YteaddglfdjnbdaaGreatDoorRows
import Derived.ProofKit
import Derived.JoinedOf
import Derived.SevenTiedAt
namespace Go.Proofs.YteaddglfdjnbdaaGreatDoor
open Go
set_option maxRecDepth 100000
theorem cf0 : (Rows.clusterNoneRow.wf (OpenSpec.ofChange Rows.clusterNoneSpec)) = true := by kernel_rfl
theorem cf1 : (laidOutB Tryz.prog) = true := by kernel_rfl
theorem cf2 : (mapsRowed Tryz.prog) = true := by kernel_rfl
theorem cf3 : (Tryz.f3.params.all (Tryz.prog.readableRec ·)) = true := by kernel_rfl
theorem cf4 : (namedTie Tryz.prog Rows.clusterNoneRow.named Rows.clusterNoneSpec.vars) = true := by kernel_rfl
theorem cf5 : ((Rows.clusterNoneRow.stops == [])) = true := by kernel_rfl
theorem cf6 : ((Tryz.prog.stops == [])) = true := by kernel_rfl
theorem cf7 : ((Rows.clusterNoneRow.knobs == [])) = true := by kernel_rfl
theorem cf8 : ((Tryz.prog.stopKnobs == [])) = true := by kernel_rfl
theorem cf9 : ((Rows.clusterNoneRow.inPlace == Tryz.prog.inPlace 3)) = true := by kernel_rfl
theorem cf10 : ((Rows.clusterNoneRow.unfollowed == Tryz.prog.unfollowed 3)) = true := by kernel_rfl
theorem cf11 : ((Rows.clusterNoneRow.recurses == Tryz.prog.recurses 3)) = true := by kernel_rfl
theorem cf12 : ((Rows.clusterNoneRow.named == Tryz.prog.varsNamed 3)) = true := by kernel_rfl
theorem cf13 : ((Rows.clusterNoneRow.maps == (Tryz.f3.params.toList ++ Rows.clusterNoneSpec.plain.varTypes Tryz.prog).any (Tryz.prog.mapsRec ·))) = true := by kernel_rfl
theorem cf14 : ((Rows.clusterNoneRow.ifaces == (Tryz.f3.params.toList ++ Rows.clusterNoneSpec.plain.varTypes Tryz.prog).any (Tryz.prog.ifacesRec ·))) = true := by kernel_rfl
theorem cf15 : ((Rows.clusterNoneRow.mapsOut == Tryz.prog.mapsAmong Tryz.f3.resultTypes.toList)) = true := by kernel_rfl
theorem cf16 : ((Rows.clusterNoneRow.loops == (Tryz.f3.params.toList ++ Rows.clusterNoneSpec.plain.varTypes Tryz.prog).any (Tryz.prog.loopsFrom ·))) = true := by kernel_rfl
theorem cf17 : ((Rows.clusterNoneRow.wideKeys == (Tryz.f3.params.toList ++ Rows.clusterNoneSpec.plain.varTypes Tryz.prog ++ Tryz.f3.resultTypes.toList).any (Tryz.prog.wideKeysFrom ·))) = true := by kernel_rfl
theorem cf18 : (Rows.clusterNoneSpec.vars.all (Tryz.prog.varReadable ·)) = true := by kernel_rfl
theorem cf19 : (Tryz.f3.resultTypes.all (fun t => Tryz.prog.readableRec t && decide (t < Tryz.prog.types.size))) = true := by kernel_rfl
theorem cf20 : ((Rows.clusterNoneRow.ifacesOut == Tryz.f3.resultTypes.toList.any (Tryz.prog.ifacesRec ·))) = true := by kernel_rfl
theorem cf21 : ((Rows.clusterNoneRow.loopsOut == Tryz.f3.resultTypes.toList.any (Tryz.prog.loopsFrom ·))) = true := by kernel_rfl
theorem cf22 : ((Rows.clusterNoneRow.plainKeys == Tryz.prog.plainKeys)) = true := by kernel_rfl
theorem cf23 : (Rows.clusterNoneRow.shortTexts.isNone) = true := by kernel_rfl
theorem cf24 : (Tryz.prog.stopsHeard) = true := by kernel_rfl
theorem cf25 : (Tryz.prog.mayEnter) = true := by kernel_rfl
theorem cf26 : ((Rows.clusterNoneRow.lifted == Tryz.prog.liftsFinal)) = true := by kernel_rfl
theorem cf27 : ((Tryz.prog.make == some Rows.clusterNoneRow.make)) = true := by kernel_rfl
theorem cf28 : ((Rows.clusterNoneRow.kinds == (if Rows.clusterNoneRow.domain.isEmpty then [] else Tryz.f3.params.toList.map fun t => match Tryz.prog.underlying t with | some (.int k) => some k | _ => none))) = true := by kernel_rfl
theorem cf29 : ((Rows.clusterNoneRow.pinned == Rows.clusterNoneRow.pinnedBy)) = true := by kernel_rfl
theorem cf30 : ((Rows.clusterNoneRow.veiled == (Tryz.f3.params.toList ++ Rows.clusterNoneSpec.plain.varTypes Tryz.prog ++ Tryz.f3.resultTypes.toList).any (Tryz.prog.veiledRec ·))) = true := by kernel_rfl
theorem cf31 : (Rows.clusterNoneRow.veiledFits Tryz.prog Tryz.f3.params.toList (Tryz.f3.params.toList ++ Rows.clusterNoneSpec.plain.varTypes Tryz.prog ++ Tryz.f3.resultTypes.toList)) = true := by kernel_rfl
theorem closedFacts : joinedFacts Tryz.prog 3 Tryz.f3 Rows.clusterNoneSpec Rows.clusterNoneRow = true := by
  simp only [joinedFacts, Bool.and_eq_true]
  exact ⟨⟨⟨⟨⟨⟨⟨⟨⟨⟨⟨⟨⟨⟨⟨⟨⟨⟨⟨⟨⟨⟨⟨⟨⟨⟨⟨⟨⟨⟨⟨cf0, cf1⟩, cf2⟩, cf3⟩, cf4⟩, cf5⟩, cf6⟩, cf7⟩, cf8⟩, cf9⟩, cf10⟩, cf11⟩, cf12⟩, cf13⟩, cf14⟩, cf15⟩, cf16⟩, cf17⟩, cf18⟩, cf19⟩, cf20⟩, cf21⟩, cf22⟩, cf23⟩, cf24⟩, cf25⟩, cf26⟩, cf27⟩, cf28⟩, cf29⟩, cf30⟩, cf31⟩
theorem noGo : (Tryz.prog.funcs.any Func.goes) = false := by kernel_rfl
theorem goes_of_none {P : Program} (h : P.funcs.any Func.goes = false) (f : FuncId) : P.goes f = false := by
  unfold Program.goes
  rw [h, Bool.and_false, Bool.or_false, List.any_eq_false]
  intro g _
  cases hg : P.funcs[g]? with
  | none => simp
  | some fn =>
    have := Array.any_eq_false'.1 h fn (Array.mem_of_getElem? hg)
    simpa using this
theorem goesFact : false = OpenClaim.goesBy Rows.clusterNoneRow Tryz.prog := by
  unfold OpenClaim.goesBy Program.goesAt
  simp only [Rows.clusterNoneRow]
  unfold Program.goesFrom
  cases Tryz.prog.funcNamed "purlin/purlinlaw21.ClusterNone" with
  | none => rfl
  | some f => simp [goes_of_none noGo f]
end Go.Proofs.YteaddglfdjnbdaaGreatDoor
