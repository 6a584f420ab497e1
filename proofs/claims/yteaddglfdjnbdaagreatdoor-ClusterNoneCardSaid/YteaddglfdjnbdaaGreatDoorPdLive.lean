/-
  live of layer 21, run by the evaluator in the kernel: it answers true.
-/
import Derived.Test.YteaddglfdjnbdaaGreatDoorPdCtx
set_option linter.unusedVariables false
namespace Go.Proofs.YteaddglfdjnbdaaGreatDoor
open Go Pd
set_option maxRecDepth 100000

/-- What purlin/term.signs holds. -/
def signs : List (List UInt8) := [[61], [58, 61], [64], [43], [45], [42], [60], [61, 60], [62], [62, 61], [61, 58, 61], [61, 92, 61]]

def isTrue : Option (Res × St) → Bool
  | some (.ret (.bool b), _) => b
  | _ => false

theorem isTrue_some {q : Option (Res × St)} (h : isTrue q = true) : ∃ s, q = some (.ret (.bool true), s) := by
  unfold isTrue at h
  split at h
  · subst h; exact ⟨_, rfl⟩
  · cases h

theorem liveRun (t : TypeId) : isTrue (callD ctx 10000 (.fn 6) [] (Pd.start t signs 6)) = true := by kernel_rfl

end Go.Proofs.YteaddglfdjnbdaaGreatDoor
