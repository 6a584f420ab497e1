/-
  ClusterNone: a nil one answers so.
-/
import Derived.Test.YteaddglfdjnbdaaGreatDoorPdLive
import Derived.Test.YteaddglfdjnbdaaGreatDoorPdOpen
import Derived.Test.YteaddglfdjnbdaaGreatDoorRows
import Derived.Test.YteaddglfdjnbdaaGreatDoorTie
import Derived.Test.YteaddglfdjnbdaaGreatDoorCards
import Derived.ProofKit
import Derived.OpenShut
import Derived.SevenTiedAt
import Derived.LaidMore
import Derived.Stop.Joined
import Derived.Below
set_option linter.unusedVariables false
set_option linter.unusedSimpArgs false
namespace Go.Proofs.YteaddglfdjnbdaaGreatDoor
open Go Pd Go.ChangeShapes Go.WideShapes Go.ChangeAt Go.WideMaps Go.WideElems Go.RowKit
set_option maxRecDepth 100000

/-- With live's summary. -/
noncomputable def ctx2 : Ctx := { ctx with prim := fun f => match Nat.beq f 6 with | true => some (fixedPrim signs (.bool true)) | false => none }

theorem progOk2 : ProgOk Tryz.prog ctx2 where
  ty := progOk.ty
  byte := progOk.byte
  seen := progOk.seen
  flat := progOk.flat
  fn := progOk.fn
  ext := progOk.ext

theorem prim2 {f : Nat} {p : List AV → DM Res} (h : ctx2.prim f = some p) : f = 6 ∧ p = fixedPrim signs (.bool true) := by
  have h' : (match Nat.beq f 6 with | true => some (fixedPrim signs (.bool true)) | false => none) = some p := h
  split at h'
  · rename_i hb; exact ⟨Nat.beq_true hb, (Option.some.inj h').symm⟩
  · cases h'

theorem primOk2 (base : World) : PrimOk Tryz.prog ctx2 base where
  mono := fun f p h args => by
    obtain ⟨_, rfl⟩ := prim2 h
    exact fixedPrim_mono _ _ _
  fn := fun f p h args s r s' hs hb μ w vs hR hg hF hv kind cs x hrc => by
    obtain ⟨rfl, rfl⟩ := prim2 h
    exact fixedPrim_fn (n := 10000) (m := 6) progOk primOk rfl (by omega) (fun t => isTrue_some (liveRun t)) hs hR (hg 0 (by decide)) hv hrc

theorem noneRun (t : TypeId) (k n a b c d : Int) (x : List UInt8) :
    isTrue (callTop ctx2 1000 3 [.agg [.int .u8 k, .int .i64 n, .int .i64 a, .int .i64 b, .str x], .agg [.int .i64 c, .int .i64 d]] (Pd.start t signs 16)) = true := by
  kernel_rfl

end Go.Proofs.YteaddglfdjnbdaaGreatDoor
