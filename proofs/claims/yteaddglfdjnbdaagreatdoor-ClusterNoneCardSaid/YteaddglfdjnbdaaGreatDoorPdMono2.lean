/-
  The evaluator sees only what is not hidden: its operations.
-/
import Derived.Test.YteaddglfdjnbdaaGreatDoorPdMono
namespace Pd
open Go
variable {C : Ctx}

theorem Mono.rd1 (id off : Nat) : Mono (Pd.rd1 id off) := by
  unfold Pd.rd1
  repeat' first | exact Mono.pure _ | exact Mono.fail | exact Mono.lift _ | exact Mono.guard _ | exact Mono.mtD _ | exact Mono.rowD _ | exact Mono.objD _ | exact Mono.putObj _ _ | exact Mono.new _ | exact Mono.rdN _ _ _ | exact Mono.setCells _ _ _ | exact Mono.setMode _ _ _ | assumption | refine Mono.bind ?_ (fun _ => ?_) | split | dsimp only

theorem Mono.wr (id off : Nat) (vs : List AV) : Mono (Pd.wr id off vs) := by
  unfold Pd.wr
  repeat' first | exact Mono.pure _ | exact Mono.fail | exact Mono.lift _ | exact Mono.guard _ | exact Mono.mtD _ | exact Mono.rowD _ | exact Mono.objD _ | exact Mono.putObj _ _ | exact Mono.new _ | exact Mono.rdN _ _ _ | exact Mono.setCells _ _ _ | exact Mono.setMode _ _ _ | exact Mono.rd1 _ _ | assumption | refine Mono.bind ?_ (fun _ => ?_) | split | dsimp only

theorem Mono.load (t : Nat) (a : AV) : Mono (Pd.load C t a) := by
  unfold Pd.load
  repeat' first | exact Mono.pure _ | exact Mono.fail | exact Mono.lift _ | exact Mono.guard _ | exact Mono.mtD _ | exact Mono.rowD _ | exact Mono.objD _ | exact Mono.putObj _ _ | exact Mono.new _ | exact Mono.rdN _ _ _ | exact Mono.setCells _ _ _ | exact Mono.setMode _ _ _ | exact Mono.rd1 _ _ | exact Mono.wr _ _ _ | assumption | refine Mono.bind ?_ (fun _ => ?_) | split | dsimp only

theorem Mono.store (t : Nat) (a v : AV) : Mono (Pd.store C t a v) := by
  unfold Pd.store
  repeat' first | exact Mono.pure _ | exact Mono.fail | exact Mono.lift _ | exact Mono.guard _ | exact Mono.mtD _ | exact Mono.rowD _ | exact Mono.objD _ | exact Mono.putObj _ _ | exact Mono.new _ | exact Mono.rdN _ _ _ | exact Mono.setCells _ _ _ | exact Mono.setMode _ _ _ | exact Mono.rd1 _ _ | exact Mono.wr _ _ _ | exact Mono.load _ _ | assumption | refine Mono.bind ?_ (fun _ => ?_) | split | dsimp only

theorem Mono.newCells (e : Nat) (cs : List AV) : Mono (Pd.newCells e cs) := by
  unfold Pd.newCells
  repeat' first | exact Mono.pure _ | exact Mono.fail | exact Mono.lift _ | exact Mono.guard _ | exact Mono.mtD _ | exact Mono.rowD _ | exact Mono.objD _ | exact Mono.putObj _ _ | exact Mono.new _ | exact Mono.rdN _ _ _ | exact Mono.setCells _ _ _ | exact Mono.setMode _ _ _ | exact Mono.rd1 _ _ | exact Mono.wr _ _ _ | exact Mono.load _ _ | exact Mono.store _ _ _ | assumption | refine Mono.bind ?_ (fun _ => ?_) | split | dsimp only

theorem Mono.buildSliceD (t n : Nat) (ps : List (Nat × AV)) : Mono (Pd.buildSliceD C t n ps) := by
  unfold Pd.buildSliceD
  repeat' first | exact Mono.pure _ | exact Mono.fail | exact Mono.lift _ | exact Mono.guard _ | exact Mono.mtD _ | exact Mono.rowD _ | exact Mono.objD _ | exact Mono.putObj _ _ | exact Mono.new _ | exact Mono.rdN _ _ _ | exact Mono.setCells _ _ _ | exact Mono.setMode _ _ _ | exact Mono.rd1 _ _ | exact Mono.wr _ _ _ | exact Mono.load _ _ | exact Mono.store _ _ _ | exact Mono.newCells _ _ | assumption | refine Mono.bind ?_ (fun _ => ?_) | split | dsimp only

theorem Mono.makeSliceD (t : Nat) (l c : AV) : Mono (Pd.makeSliceD C t l c) := by
  unfold Pd.makeSliceD
  repeat' first | exact Mono.pure _ | exact Mono.fail | exact Mono.lift _ | exact Mono.guard _ | exact Mono.mtD _ | exact Mono.rowD _ | exact Mono.objD _ | exact Mono.putObj _ _ | exact Mono.new _ | exact Mono.rdN _ _ _ | exact Mono.setCells _ _ _ | exact Mono.setMode _ _ _ | exact Mono.rd1 _ _ | exact Mono.wr _ _ _ | exact Mono.load _ _ | exact Mono.store _ _ _ | exact Mono.newCells _ _ | exact Mono.buildSliceD _ _ _ | assumption | refine Mono.bind ?_ (fun _ => ?_) | split | dsimp only

theorem Mono.reachD (id off len h sz : Nat) : Mono (Pd.reachD id off len h sz) := by
  unfold Pd.reachD
  repeat' first | exact Mono.pure _ | exact Mono.fail | exact Mono.lift _ | exact Mono.guard _ | exact Mono.mtD _ | exact Mono.rowD _ | exact Mono.objD _ | exact Mono.putObj _ _ | exact Mono.new _ | exact Mono.rdN _ _ _ | exact Mono.setCells _ _ _ | exact Mono.setMode _ _ _ | exact Mono.rd1 _ _ | exact Mono.wr _ _ _ | exact Mono.load _ _ | exact Mono.store _ _ _ | exact Mono.newCells _ _ | exact Mono.buildSliceD _ _ _ | exact Mono.makeSliceD _ _ _ | assumption | refine Mono.bind ?_ (fun _ => ?_) | split | dsimp only

theorem Mono.sliceD (t : Nat) (x : AV) (lo hi mx : Option AV) : Mono (Pd.sliceD C t x lo hi mx) := by
  unfold Pd.sliceD
  repeat' first | exact Mono.pure _ | exact Mono.fail | exact Mono.lift _ | exact Mono.guard _ | exact Mono.mtD _ | exact Mono.rowD _ | exact Mono.objD _ | exact Mono.putObj _ _ | exact Mono.new _ | exact Mono.rdN _ _ _ | exact Mono.setCells _ _ _ | exact Mono.setMode _ _ _ | exact Mono.rd1 _ _ | exact Mono.wr _ _ _ | exact Mono.load _ _ | exact Mono.store _ _ _ | exact Mono.newCells _ _ | exact Mono.buildSliceD _ _ _ | exact Mono.makeSliceD _ _ _ | exact Mono.reachD _ _ _ _ _ | assumption | refine Mono.bind ?_ (fun _ => ?_) | split | dsimp only

theorem Mono.sliceCells (sz n : Nat) (x : AV) : Mono (Pd.sliceCells sz n x) := by
  unfold Pd.sliceCells
  repeat' first | exact Mono.pure _ | exact Mono.fail | exact Mono.lift _ | exact Mono.guard _ | exact Mono.mtD _ | exact Mono.rowD _ | exact Mono.objD _ | exact Mono.putObj _ _ | exact Mono.new _ | exact Mono.rdN _ _ _ | exact Mono.setCells _ _ _ | exact Mono.setMode _ _ _ | exact Mono.rd1 _ _ | exact Mono.wr _ _ _ | exact Mono.load _ _ | exact Mono.store _ _ _ | exact Mono.newCells _ _ | exact Mono.buildSliceD _ _ _ | exact Mono.makeSliceD _ _ _ | exact Mono.reachD _ _ _ _ _ | exact Mono.sliceD _ _ _ _ _ | assumption | refine Mono.bind ?_ (fun _ => ?_) | split | dsimp only

theorem Mono.appendNew (e sz : Nat) (a b : List AV) (l m : Nat) (i : TypeInfo) : Mono (Pd.appendNew C e sz a b l m i) := by
  unfold Pd.appendNew
  repeat' first | exact Mono.pure _ | exact Mono.fail | exact Mono.lift _ | exact Mono.guard _ | exact Mono.mtD _ | exact Mono.rowD _ | exact Mono.objD _ | exact Mono.putObj _ _ | exact Mono.new _ | exact Mono.rdN _ _ _ | exact Mono.setCells _ _ _ | exact Mono.setMode _ _ _ | exact Mono.rd1 _ _ | exact Mono.wr _ _ _ | exact Mono.load _ _ | exact Mono.store _ _ _ | exact Mono.newCells _ _ | exact Mono.buildSliceD _ _ _ | exact Mono.makeSliceD _ _ _ | exact Mono.reachD _ _ _ _ _ | exact Mono.sliceD _ _ _ _ _ | exact Mono.sliceCells _ _ _ | assumption | refine Mono.bind ?_ (fun _ => ?_) | split | dsimp only

theorem Mono.chainD (c : Option Nat) : Mono (Pd.chainD c) := by
  unfold Pd.chainD
  repeat' first | exact Mono.pure _ | exact Mono.fail | exact Mono.lift _ | exact Mono.guard _ | exact Mono.mtD _ | exact Mono.rowD _ | exact Mono.objD _ | exact Mono.putObj _ _ | exact Mono.new _ | exact Mono.rdN _ _ _ | exact Mono.setCells _ _ _ | exact Mono.setMode _ _ _ | exact Mono.rd1 _ _ | exact Mono.wr _ _ _ | exact Mono.load _ _ | exact Mono.store _ _ _ | exact Mono.newCells _ _ | exact Mono.buildSliceD _ _ _ | exact Mono.makeSliceD _ _ _ | exact Mono.reachD _ _ _ _ _ | exact Mono.sliceD _ _ _ _ _ | exact Mono.sliceCells _ _ _ | exact Mono.appendNew _ _ _ _ _ _ _ | assumption | refine Mono.bind ?_ (fun _ => ?_) | split | dsimp only

theorem Mono.appendOpen (e : Nat) (i : TypeInfo) (id off len m : Nat) (b : List AV) (n e' : Nat) (fz : Nat × Nat) (c : Option Nat) : Mono (Pd.appendOpen C e i id off len m b n e' fz c) := by
  unfold Pd.appendOpen
  repeat' first | exact Mono.pure _ | exact Mono.fail | exact Mono.lift _ | exact Mono.guard _ | exact Mono.mtD _ | exact Mono.rowD _ | exact Mono.objD _ | exact Mono.putObj _ _ | exact Mono.new _ | exact Mono.rdN _ _ _ | exact Mono.setCells _ _ _ | exact Mono.setMode _ _ _ | exact Mono.rd1 _ _ | exact Mono.wr _ _ _ | exact Mono.load _ _ | exact Mono.store _ _ _ | exact Mono.newCells _ _ | exact Mono.buildSliceD _ _ _ | exact Mono.makeSliceD _ _ _ | exact Mono.reachD _ _ _ _ _ | exact Mono.sliceD _ _ _ _ _ | exact Mono.sliceCells _ _ _ | exact Mono.appendNew _ _ _ _ _ _ _ | exact Mono.chainD _ | assumption | refine Mono.bind ?_ (fun _ => ?_) | split | dsimp only

theorem Mono.appendCells (e : Nat) (i : TypeInfo) (s : AV) (m : Nat) (b : List AV) : Mono (Pd.appendCells C e i s m b) := by
  unfold Pd.appendCells
  repeat' first | exact Mono.pure _ | exact Mono.fail | exact Mono.lift _ | exact Mono.guard _ | exact Mono.mtD _ | exact Mono.rowD _ | exact Mono.objD _ | exact Mono.putObj _ _ | exact Mono.new _ | exact Mono.rdN _ _ _ | exact Mono.setCells _ _ _ | exact Mono.setMode _ _ _ | exact Mono.rd1 _ _ | exact Mono.wr _ _ _ | exact Mono.load _ _ | exact Mono.store _ _ _ | exact Mono.newCells _ _ | exact Mono.buildSliceD _ _ _ | exact Mono.makeSliceD _ _ _ | exact Mono.reachD _ _ _ _ _ | exact Mono.sliceD _ _ _ _ _ | exact Mono.sliceCells _ _ _ | exact Mono.appendNew _ _ _ _ _ _ _ | exact Mono.chainD _ | exact Mono.appendOpen _ _ _ _ _ _ _ _ _ _ _ | assumption | refine Mono.bind ?_ (fun _ => ?_) | split | dsimp only

theorem Mono.comesD (i : TypeInfo) (e t : Nat) (x : AV) : Mono (Pd.comesD C i e t x) := by
  unfold Pd.comesD
  repeat' first | exact Mono.pure _ | exact Mono.fail | exact Mono.lift _ | exact Mono.guard _ | exact Mono.mtD _ | exact Mono.rowD _ | exact Mono.objD _ | exact Mono.putObj _ _ | exact Mono.new _ | exact Mono.rdN _ _ _ | exact Mono.setCells _ _ _ | exact Mono.setMode _ _ _ | exact Mono.rd1 _ _ | exact Mono.wr _ _ _ | exact Mono.load _ _ | exact Mono.store _ _ _ | exact Mono.newCells _ _ | exact Mono.buildSliceD _ _ _ | exact Mono.makeSliceD _ _ _ | exact Mono.reachD _ _ _ _ _ | exact Mono.sliceD _ _ _ _ _ | exact Mono.sliceCells _ _ _ | exact Mono.appendNew _ _ _ _ _ _ _ | exact Mono.chainD _ | exact Mono.appendOpen _ _ _ _ _ _ _ _ _ _ _ | exact Mono.appendCells _ _ _ _ _ | assumption | refine Mono.bind ?_ (fun _ => ?_) | split | dsimp only

theorem Mono.appendD (ts tx : Nat) (s x : AV) : Mono (Pd.appendD C ts tx s x) := by
  unfold Pd.appendD
  repeat' first | exact Mono.pure _ | exact Mono.fail | exact Mono.lift _ | exact Mono.guard _ | exact Mono.mtD _ | exact Mono.rowD _ | exact Mono.objD _ | exact Mono.putObj _ _ | exact Mono.new _ | exact Mono.rdN _ _ _ | exact Mono.setCells _ _ _ | exact Mono.setMode _ _ _ | exact Mono.rd1 _ _ | exact Mono.wr _ _ _ | exact Mono.load _ _ | exact Mono.store _ _ _ | exact Mono.newCells _ _ | exact Mono.buildSliceD _ _ _ | exact Mono.makeSliceD _ _ _ | exact Mono.reachD _ _ _ _ _ | exact Mono.sliceD _ _ _ _ _ | exact Mono.sliceCells _ _ _ | exact Mono.appendNew _ _ _ _ _ _ _ | exact Mono.chainD _ | exact Mono.appendOpen _ _ _ _ _ _ _ _ _ _ _ | exact Mono.appendCells _ _ _ _ _ | exact Mono.comesD _ _ _ _ | assumption | refine Mono.bind ?_ (fun _ => ?_) | split | dsimp only

theorem Mono.copyD (t : Nat) (a b : AV) : Mono (Pd.copyD C t a b) := by
  unfold Pd.copyD
  repeat' first | exact Mono.pure _ | exact Mono.fail | exact Mono.lift _ | exact Mono.guard _ | exact Mono.mtD _ | exact Mono.rowD _ | exact Mono.objD _ | exact Mono.putObj _ _ | exact Mono.new _ | exact Mono.rdN _ _ _ | exact Mono.setCells _ _ _ | exact Mono.setMode _ _ _ | exact Mono.rd1 _ _ | exact Mono.wr _ _ _ | exact Mono.load _ _ | exact Mono.store _ _ _ | exact Mono.newCells _ _ | exact Mono.buildSliceD _ _ _ | exact Mono.makeSliceD _ _ _ | exact Mono.reachD _ _ _ _ _ | exact Mono.sliceD _ _ _ _ _ | exact Mono.sliceCells _ _ _ | exact Mono.appendNew _ _ _ _ _ _ _ | exact Mono.chainD _ | exact Mono.appendOpen _ _ _ _ _ _ _ _ _ _ _ | exact Mono.appendCells _ _ _ _ _ | exact Mono.comesD _ _ _ _ | exact Mono.appendD _ _ _ _ | assumption | refine Mono.bind ?_ (fun _ => ?_) | split | dsimp only

theorem Mono.mapOf (id : Nat) : Mono (Pd.mapOf id) := by
  unfold Pd.mapOf
  repeat' first | exact Mono.pure _ | exact Mono.fail | exact Mono.lift _ | exact Mono.guard _ | exact Mono.mtD _ | exact Mono.rowD _ | exact Mono.objD _ | exact Mono.putObj _ _ | exact Mono.new _ | exact Mono.rdN _ _ _ | exact Mono.setCells _ _ _ | exact Mono.setMode _ _ _ | exact Mono.rd1 _ _ | exact Mono.wr _ _ _ | exact Mono.load _ _ | exact Mono.store _ _ _ | exact Mono.newCells _ _ | exact Mono.buildSliceD _ _ _ | exact Mono.makeSliceD _ _ _ | exact Mono.reachD _ _ _ _ _ | exact Mono.sliceD _ _ _ _ _ | exact Mono.sliceCells _ _ _ | exact Mono.appendNew _ _ _ _ _ _ _ | exact Mono.chainD _ | exact Mono.appendOpen _ _ _ _ _ _ _ _ _ _ _ | exact Mono.appendCells _ _ _ _ _ | exact Mono.comesD _ _ _ _ | exact Mono.appendD _ _ _ _ | exact Mono.copyD _ _ _ | assumption | refine Mono.bind ?_ (fun _ => ?_) | split | dsimp only

theorem Mono.keyGuard (kk : KK) (k : AV) : Mono (Pd.keyGuard kk k) := by
  unfold Pd.keyGuard
  repeat' first | exact Mono.pure _ | exact Mono.fail | exact Mono.lift _ | exact Mono.guard _ | exact Mono.mtD _ | exact Mono.rowD _ | exact Mono.objD _ | exact Mono.putObj _ _ | exact Mono.new _ | exact Mono.rdN _ _ _ | exact Mono.setCells _ _ _ | exact Mono.setMode _ _ _ | exact Mono.rd1 _ _ | exact Mono.wr _ _ _ | exact Mono.load _ _ | exact Mono.store _ _ _ | exact Mono.newCells _ _ | exact Mono.buildSliceD _ _ _ | exact Mono.makeSliceD _ _ _ | exact Mono.reachD _ _ _ _ _ | exact Mono.sliceD _ _ _ _ _ | exact Mono.sliceCells _ _ _ | exact Mono.appendNew _ _ _ _ _ _ _ | exact Mono.chainD _ | exact Mono.appendOpen _ _ _ _ _ _ _ _ _ _ _ | exact Mono.appendCells _ _ _ _ _ | exact Mono.comesD _ _ _ _ | exact Mono.appendD _ _ _ _ | exact Mono.copyD _ _ _ | exact Mono.mapOf _ | assumption | refine Mono.bind ?_ (fun _ => ?_) | split | dsimp only

theorem Mono.lookupD (t : Nat) (m k : AV) (ok : Bool) : Mono (Pd.lookupD C t m k ok) := by
  unfold Pd.lookupD
  repeat' first | exact Mono.pure _ | exact Mono.fail | exact Mono.lift _ | exact Mono.guard _ | exact Mono.mtD _ | exact Mono.rowD _ | exact Mono.objD _ | exact Mono.putObj _ _ | exact Mono.new _ | exact Mono.rdN _ _ _ | exact Mono.setCells _ _ _ | exact Mono.setMode _ _ _ | exact Mono.rd1 _ _ | exact Mono.wr _ _ _ | exact Mono.load _ _ | exact Mono.store _ _ _ | exact Mono.newCells _ _ | exact Mono.buildSliceD _ _ _ | exact Mono.makeSliceD _ _ _ | exact Mono.reachD _ _ _ _ _ | exact Mono.sliceD _ _ _ _ _ | exact Mono.sliceCells _ _ _ | exact Mono.appendNew _ _ _ _ _ _ _ | exact Mono.chainD _ | exact Mono.appendOpen _ _ _ _ _ _ _ _ _ _ _ | exact Mono.appendCells _ _ _ _ _ | exact Mono.comesD _ _ _ _ | exact Mono.appendD _ _ _ _ | exact Mono.copyD _ _ _ | exact Mono.mapOf _ | exact Mono.keyGuard _ _ | assumption | refine Mono.bind ?_ (fun _ => ?_) | split | dsimp only

theorem Mono.mapUpdateD (t : Nat) (m k v : AV) : Mono (Pd.mapUpdateD C t m k v) := by
  unfold Pd.mapUpdateD
  repeat' first | exact Mono.pure _ | exact Mono.fail | exact Mono.lift _ | exact Mono.guard _ | exact Mono.mtD _ | exact Mono.rowD _ | exact Mono.objD _ | exact Mono.putObj _ _ | exact Mono.new _ | exact Mono.rdN _ _ _ | exact Mono.setCells _ _ _ | exact Mono.setMode _ _ _ | exact Mono.rd1 _ _ | exact Mono.wr _ _ _ | exact Mono.load _ _ | exact Mono.store _ _ _ | exact Mono.newCells _ _ | exact Mono.buildSliceD _ _ _ | exact Mono.makeSliceD _ _ _ | exact Mono.reachD _ _ _ _ _ | exact Mono.sliceD _ _ _ _ _ | exact Mono.sliceCells _ _ _ | exact Mono.appendNew _ _ _ _ _ _ _ | exact Mono.chainD _ | exact Mono.appendOpen _ _ _ _ _ _ _ _ _ _ _ | exact Mono.appendCells _ _ _ _ _ | exact Mono.comesD _ _ _ _ | exact Mono.appendD _ _ _ _ | exact Mono.copyD _ _ _ | exact Mono.mapOf _ | exact Mono.keyGuard _ _ | exact Mono.lookupD _ _ _ _ | assumption | refine Mono.bind ?_ (fun _ => ?_) | split | dsimp only

theorem Mono.mapEntryD (t : Nat) (m k : AV) : Mono (Pd.mapEntryD C t m k) := by
  unfold Pd.mapEntryD
  repeat' first | exact Mono.pure _ | exact Mono.fail | exact Mono.lift _ | exact Mono.guard _ | exact Mono.mtD _ | exact Mono.rowD _ | exact Mono.objD _ | exact Mono.putObj _ _ | exact Mono.new _ | exact Mono.rdN _ _ _ | exact Mono.setCells _ _ _ | exact Mono.setMode _ _ _ | exact Mono.rd1 _ _ | exact Mono.wr _ _ _ | exact Mono.load _ _ | exact Mono.store _ _ _ | exact Mono.newCells _ _ | exact Mono.buildSliceD _ _ _ | exact Mono.makeSliceD _ _ _ | exact Mono.reachD _ _ _ _ _ | exact Mono.sliceD _ _ _ _ _ | exact Mono.sliceCells _ _ _ | exact Mono.appendNew _ _ _ _ _ _ _ | exact Mono.chainD _ | exact Mono.appendOpen _ _ _ _ _ _ _ _ _ _ _ | exact Mono.appendCells _ _ _ _ _ | exact Mono.comesD _ _ _ _ | exact Mono.appendD _ _ _ _ | exact Mono.copyD _ _ _ | exact Mono.mapOf _ | exact Mono.keyGuard _ _ | exact Mono.lookupD _ _ _ _ | exact Mono.mapUpdateD _ _ _ _ | assumption | refine Mono.bind ?_ (fun _ => ?_) | split | dsimp only

theorem Mono.entryStoreD (m k v : AV) : Mono (Pd.entryStoreD m k v) := by
  unfold Pd.entryStoreD
  repeat' first | exact Mono.pure _ | exact Mono.fail | exact Mono.lift _ | exact Mono.guard _ | exact Mono.mtD _ | exact Mono.rowD _ | exact Mono.objD _ | exact Mono.putObj _ _ | exact Mono.new _ | exact Mono.rdN _ _ _ | exact Mono.setCells _ _ _ | exact Mono.setMode _ _ _ | exact Mono.rd1 _ _ | exact Mono.wr _ _ _ | exact Mono.load _ _ | exact Mono.store _ _ _ | exact Mono.newCells _ _ | exact Mono.buildSliceD _ _ _ | exact Mono.makeSliceD _ _ _ | exact Mono.reachD _ _ _ _ _ | exact Mono.sliceD _ _ _ _ _ | exact Mono.sliceCells _ _ _ | exact Mono.appendNew _ _ _ _ _ _ _ | exact Mono.chainD _ | exact Mono.appendOpen _ _ _ _ _ _ _ _ _ _ _ | exact Mono.appendCells _ _ _ _ _ | exact Mono.comesD _ _ _ _ | exact Mono.appendD _ _ _ _ | exact Mono.copyD _ _ _ | exact Mono.mapOf _ | exact Mono.keyGuard _ _ | exact Mono.lookupD _ _ _ _ | exact Mono.mapUpdateD _ _ _ _ | exact Mono.mapEntryD _ _ _ | assumption | refine Mono.bind ?_ (fun _ => ?_) | split | dsimp only

theorem Mono.deleteD (t : Nat) (m k : AV) : Mono (Pd.deleteD C t m k) := by
  unfold Pd.deleteD
  repeat' first | exact Mono.pure _ | exact Mono.fail | exact Mono.lift _ | exact Mono.guard _ | exact Mono.mtD _ | exact Mono.rowD _ | exact Mono.objD _ | exact Mono.putObj _ _ | exact Mono.new _ | exact Mono.rdN _ _ _ | exact Mono.setCells _ _ _ | exact Mono.setMode _ _ _ | exact Mono.rd1 _ _ | exact Mono.wr _ _ _ | exact Mono.load _ _ | exact Mono.store _ _ _ | exact Mono.newCells _ _ | exact Mono.buildSliceD _ _ _ | exact Mono.makeSliceD _ _ _ | exact Mono.reachD _ _ _ _ _ | exact Mono.sliceD _ _ _ _ _ | exact Mono.sliceCells _ _ _ | exact Mono.appendNew _ _ _ _ _ _ _ | exact Mono.chainD _ | exact Mono.appendOpen _ _ _ _ _ _ _ _ _ _ _ | exact Mono.appendCells _ _ _ _ _ | exact Mono.comesD _ _ _ _ | exact Mono.appendD _ _ _ _ | exact Mono.copyD _ _ _ | exact Mono.mapOf _ | exact Mono.keyGuard _ _ | exact Mono.lookupD _ _ _ _ | exact Mono.mapUpdateD _ _ _ _ | exact Mono.mapEntryD _ _ _ | exact Mono.entryStoreD _ _ _ | assumption | refine Mono.bind ?_ (fun _ => ?_) | split | dsimp only

theorem Mono.rangeD (t : Nat) (x : AV) : Mono (Pd.rangeD C t x) := by
  unfold Pd.rangeD
  repeat' first | exact Mono.pure _ | exact Mono.fail | exact Mono.lift _ | exact Mono.guard _ | exact Mono.mtD _ | exact Mono.rowD _ | exact Mono.objD _ | exact Mono.putObj _ _ | exact Mono.new _ | exact Mono.rdN _ _ _ | exact Mono.setCells _ _ _ | exact Mono.setMode _ _ _ | exact Mono.rd1 _ _ | exact Mono.wr _ _ _ | exact Mono.load _ _ | exact Mono.store _ _ _ | exact Mono.newCells _ _ | exact Mono.buildSliceD _ _ _ | exact Mono.makeSliceD _ _ _ | exact Mono.reachD _ _ _ _ _ | exact Mono.sliceD _ _ _ _ _ | exact Mono.sliceCells _ _ _ | exact Mono.appendNew _ _ _ _ _ _ _ | exact Mono.chainD _ | exact Mono.appendOpen _ _ _ _ _ _ _ _ _ _ _ | exact Mono.appendCells _ _ _ _ _ | exact Mono.comesD _ _ _ _ | exact Mono.appendD _ _ _ _ | exact Mono.copyD _ _ _ | exact Mono.mapOf _ | exact Mono.keyGuard _ _ | exact Mono.lookupD _ _ _ _ | exact Mono.mapUpdateD _ _ _ _ | exact Mono.mapEntryD _ _ _ | exact Mono.entryStoreD _ _ _ | exact Mono.deleteD _ _ _ | assumption | refine Mono.bind ?_ (fun _ => ?_) | split | dsimp only

theorem Mono.nextMapD (id m s : Nat) (l : List Nat) (n : Nat) : Mono (Pd.nextMapD id m s l n) := by
  unfold Pd.nextMapD
  repeat' first | exact Mono.pure _ | exact Mono.fail | exact Mono.lift _ | exact Mono.guard _ | exact Mono.mtD _ | exact Mono.rowD _ | exact Mono.objD _ | exact Mono.putObj _ _ | exact Mono.new _ | exact Mono.rdN _ _ _ | exact Mono.setCells _ _ _ | exact Mono.setMode _ _ _ | exact Mono.rd1 _ _ | exact Mono.wr _ _ _ | exact Mono.load _ _ | exact Mono.store _ _ _ | exact Mono.newCells _ _ | exact Mono.buildSliceD _ _ _ | exact Mono.makeSliceD _ _ _ | exact Mono.reachD _ _ _ _ _ | exact Mono.sliceD _ _ _ _ _ | exact Mono.sliceCells _ _ _ | exact Mono.appendNew _ _ _ _ _ _ _ | exact Mono.chainD _ | exact Mono.appendOpen _ _ _ _ _ _ _ _ _ _ _ | exact Mono.appendCells _ _ _ _ _ | exact Mono.comesD _ _ _ _ | exact Mono.appendD _ _ _ _ | exact Mono.copyD _ _ _ | exact Mono.mapOf _ | exact Mono.keyGuard _ _ | exact Mono.lookupD _ _ _ _ | exact Mono.mapUpdateD _ _ _ _ | exact Mono.mapEntryD _ _ _ | exact Mono.entryStoreD _ _ _ | exact Mono.deleteD _ _ _ | exact Mono.rangeD _ _ | assumption | refine Mono.bind ?_ (fun _ => ?_) | split | dsimp only

theorem Mono.nextStrD (id : Nat) (s : List UInt8) (pos : Nat) : Mono (Pd.nextStrD id s pos) := by
  unfold Pd.nextStrD
  repeat' first | exact Mono.pure _ | exact Mono.fail | exact Mono.lift _ | exact Mono.guard _ | exact Mono.mtD _ | exact Mono.rowD _ | exact Mono.objD _ | exact Mono.putObj _ _ | exact Mono.new _ | exact Mono.rdN _ _ _ | exact Mono.setCells _ _ _ | exact Mono.setMode _ _ _ | exact Mono.rd1 _ _ | exact Mono.wr _ _ _ | exact Mono.load _ _ | exact Mono.store _ _ _ | exact Mono.newCells _ _ | exact Mono.buildSliceD _ _ _ | exact Mono.makeSliceD _ _ _ | exact Mono.reachD _ _ _ _ _ | exact Mono.sliceD _ _ _ _ _ | exact Mono.sliceCells _ _ _ | exact Mono.appendNew _ _ _ _ _ _ _ | exact Mono.chainD _ | exact Mono.appendOpen _ _ _ _ _ _ _ _ _ _ _ | exact Mono.appendCells _ _ _ _ _ | exact Mono.comesD _ _ _ _ | exact Mono.appendD _ _ _ _ | exact Mono.copyD _ _ _ | exact Mono.mapOf _ | exact Mono.keyGuard _ _ | exact Mono.lookupD _ _ _ _ | exact Mono.mapUpdateD _ _ _ _ | exact Mono.mapEntryD _ _ _ | exact Mono.entryStoreD _ _ _ | exact Mono.deleteD _ _ _ | exact Mono.rangeD _ _ | exact Mono.nextMapD _ _ _ _ _ | assumption | refine Mono.bind ?_ (fun _ => ?_) | split | dsimp only

theorem Mono.nextD (x : AV) (b : Bool) : Mono (Pd.nextD x b) := by
  unfold Pd.nextD
  repeat' first | exact Mono.pure _ | exact Mono.fail | exact Mono.lift _ | exact Mono.guard _ | exact Mono.mtD _ | exact Mono.rowD _ | exact Mono.objD _ | exact Mono.putObj _ _ | exact Mono.new _ | exact Mono.rdN _ _ _ | exact Mono.setCells _ _ _ | exact Mono.setMode _ _ _ | exact Mono.rd1 _ _ | exact Mono.wr _ _ _ | exact Mono.load _ _ | exact Mono.store _ _ _ | exact Mono.newCells _ _ | exact Mono.buildSliceD _ _ _ | exact Mono.makeSliceD _ _ _ | exact Mono.reachD _ _ _ _ _ | exact Mono.sliceD _ _ _ _ _ | exact Mono.sliceCells _ _ _ | exact Mono.appendNew _ _ _ _ _ _ _ | exact Mono.chainD _ | exact Mono.appendOpen _ _ _ _ _ _ _ _ _ _ _ | exact Mono.appendCells _ _ _ _ _ | exact Mono.comesD _ _ _ _ | exact Mono.appendD _ _ _ _ | exact Mono.copyD _ _ _ | exact Mono.mapOf _ | exact Mono.keyGuard _ _ | exact Mono.lookupD _ _ _ _ | exact Mono.mapUpdateD _ _ _ _ | exact Mono.mapEntryD _ _ _ | exact Mono.entryStoreD _ _ _ | exact Mono.deleteD _ _ _ | exact Mono.rangeD _ _ | exact Mono.nextMapD _ _ _ _ _ | exact Mono.nextStrD _ _ _ | assumption | refine Mono.bind ?_ (fun _ => ?_) | split | dsimp only

theorem Mono.entryD (x : AV) : Mono (Pd.entryD x) := by
  unfold Pd.entryD
  repeat' first | exact Mono.pure _ | exact Mono.fail | exact Mono.lift _ | exact Mono.guard _ | exact Mono.mtD _ | exact Mono.rowD _ | exact Mono.objD _ | exact Mono.putObj _ _ | exact Mono.new _ | exact Mono.rdN _ _ _ | exact Mono.setCells _ _ _ | exact Mono.setMode _ _ _ | exact Mono.rd1 _ _ | exact Mono.wr _ _ _ | exact Mono.load _ _ | exact Mono.store _ _ _ | exact Mono.newCells _ _ | exact Mono.buildSliceD _ _ _ | exact Mono.makeSliceD _ _ _ | exact Mono.reachD _ _ _ _ _ | exact Mono.sliceD _ _ _ _ _ | exact Mono.sliceCells _ _ _ | exact Mono.appendNew _ _ _ _ _ _ _ | exact Mono.chainD _ | exact Mono.appendOpen _ _ _ _ _ _ _ _ _ _ _ | exact Mono.appendCells _ _ _ _ _ | exact Mono.comesD _ _ _ _ | exact Mono.appendD _ _ _ _ | exact Mono.copyD _ _ _ | exact Mono.mapOf _ | exact Mono.keyGuard _ _ | exact Mono.lookupD _ _ _ _ | exact Mono.mapUpdateD _ _ _ _ | exact Mono.mapEntryD _ _ _ | exact Mono.entryStoreD _ _ _ | exact Mono.deleteD _ _ _ | exact Mono.rangeD _ _ | exact Mono.nextMapD _ _ _ _ _ | exact Mono.nextStrD _ _ _ | exact Mono.nextD _ _ | assumption | refine Mono.bind ?_ (fun _ => ?_) | split | dsimp only

theorem Mono.convTo (cv : CV) (x : AV) : Mono (Pd.convTo C cv x) := by
  unfold Pd.convTo
  repeat' first | exact Mono.pure _ | exact Mono.fail | exact Mono.lift _ | exact Mono.guard _ | exact Mono.mtD _ | exact Mono.rowD _ | exact Mono.objD _ | exact Mono.putObj _ _ | exact Mono.new _ | exact Mono.rdN _ _ _ | exact Mono.setCells _ _ _ | exact Mono.setMode _ _ _ | exact Mono.rd1 _ _ | exact Mono.wr _ _ _ | exact Mono.load _ _ | exact Mono.store _ _ _ | exact Mono.newCells _ _ | exact Mono.buildSliceD _ _ _ | exact Mono.makeSliceD _ _ _ | exact Mono.reachD _ _ _ _ _ | exact Mono.sliceD _ _ _ _ _ | exact Mono.sliceCells _ _ _ | exact Mono.appendNew _ _ _ _ _ _ _ | exact Mono.chainD _ | exact Mono.appendOpen _ _ _ _ _ _ _ _ _ _ _ | exact Mono.appendCells _ _ _ _ _ | exact Mono.comesD _ _ _ _ | exact Mono.appendD _ _ _ _ | exact Mono.copyD _ _ _ | exact Mono.mapOf _ | exact Mono.keyGuard _ _ | exact Mono.lookupD _ _ _ _ | exact Mono.mapUpdateD _ _ _ _ | exact Mono.mapEntryD _ _ _ | exact Mono.entryStoreD _ _ _ | exact Mono.deleteD _ _ _ | exact Mono.rangeD _ _ | exact Mono.nextMapD _ _ _ _ _ | exact Mono.nextStrD _ _ _ | exact Mono.nextD _ _ | exact Mono.entryD _ | assumption | refine Mono.bind ?_ (fun _ => ?_) | split | dsimp only

theorem Mono.convD (a b : Nat) (x : AV) : Mono (Pd.convD C a b x) := by
  unfold Pd.convD
  repeat' first | exact Mono.pure _ | exact Mono.fail | exact Mono.lift _ | exact Mono.guard _ | exact Mono.mtD _ | exact Mono.rowD _ | exact Mono.objD _ | exact Mono.putObj _ _ | exact Mono.new _ | exact Mono.rdN _ _ _ | exact Mono.setCells _ _ _ | exact Mono.setMode _ _ _ | exact Mono.rd1 _ _ | exact Mono.wr _ _ _ | exact Mono.load _ _ | exact Mono.store _ _ _ | exact Mono.newCells _ _ | exact Mono.buildSliceD _ _ _ | exact Mono.makeSliceD _ _ _ | exact Mono.reachD _ _ _ _ _ | exact Mono.sliceD _ _ _ _ _ | exact Mono.sliceCells _ _ _ | exact Mono.appendNew _ _ _ _ _ _ _ | exact Mono.chainD _ | exact Mono.appendOpen _ _ _ _ _ _ _ _ _ _ _ | exact Mono.appendCells _ _ _ _ _ | exact Mono.comesD _ _ _ _ | exact Mono.appendD _ _ _ _ | exact Mono.copyD _ _ _ | exact Mono.mapOf _ | exact Mono.keyGuard _ _ | exact Mono.lookupD _ _ _ _ | exact Mono.mapUpdateD _ _ _ _ | exact Mono.mapEntryD _ _ _ | exact Mono.entryStoreD _ _ _ | exact Mono.deleteD _ _ _ | exact Mono.rangeD _ _ | exact Mono.nextMapD _ _ _ _ _ | exact Mono.nextStrD _ _ _ | exact Mono.nextD _ _ | exact Mono.entryD _ | exact Mono.convTo _ _ | assumption | refine Mono.bind ?_ (fun _ => ?_) | split | dsimp only

theorem Mono.tassertD (x : AV) (a : Nat) (ok : Bool) : Mono (Pd.tassertD C x a ok) := by
  unfold Pd.tassertD
  repeat' first | exact Mono.pure _ | exact Mono.fail | exact Mono.lift _ | exact Mono.guard _ | exact Mono.mtD _ | exact Mono.rowD _ | exact Mono.objD _ | exact Mono.putObj _ _ | exact Mono.new _ | exact Mono.rdN _ _ _ | exact Mono.setCells _ _ _ | exact Mono.setMode _ _ _ | exact Mono.rd1 _ _ | exact Mono.wr _ _ _ | exact Mono.load _ _ | exact Mono.store _ _ _ | exact Mono.newCells _ _ | exact Mono.buildSliceD _ _ _ | exact Mono.makeSliceD _ _ _ | exact Mono.reachD _ _ _ _ _ | exact Mono.sliceD _ _ _ _ _ | exact Mono.sliceCells _ _ _ | exact Mono.appendNew _ _ _ _ _ _ _ | exact Mono.chainD _ | exact Mono.appendOpen _ _ _ _ _ _ _ _ _ _ _ | exact Mono.appendCells _ _ _ _ _ | exact Mono.comesD _ _ _ _ | exact Mono.appendD _ _ _ _ | exact Mono.copyD _ _ _ | exact Mono.mapOf _ | exact Mono.keyGuard _ _ | exact Mono.lookupD _ _ _ _ | exact Mono.mapUpdateD _ _ _ _ | exact Mono.mapEntryD _ _ _ | exact Mono.entryStoreD _ _ _ | exact Mono.deleteD _ _ _ | exact Mono.rangeD _ _ | exact Mono.nextMapD _ _ _ _ _ | exact Mono.nextStrD _ _ _ | exact Mono.nextD _ _ | exact Mono.entryD _ | exact Mono.convTo _ _ | exact Mono.convD _ _ _ | assumption | refine Mono.bind ?_ (fun _ => ?_) | split | dsimp only

theorem Mono.lenB (t : Nat) (x : AV) : Mono (Pd.lenB C t x) := by
  unfold Pd.lenB
  repeat' first | exact Mono.pure _ | exact Mono.fail | exact Mono.lift _ | exact Mono.guard _ | exact Mono.mtD _ | exact Mono.rowD _ | exact Mono.objD _ | exact Mono.putObj _ _ | exact Mono.new _ | exact Mono.rdN _ _ _ | exact Mono.setCells _ _ _ | exact Mono.setMode _ _ _ | exact Mono.rd1 _ _ | exact Mono.wr _ _ _ | exact Mono.load _ _ | exact Mono.store _ _ _ | exact Mono.newCells _ _ | exact Mono.buildSliceD _ _ _ | exact Mono.makeSliceD _ _ _ | exact Mono.reachD _ _ _ _ _ | exact Mono.sliceD _ _ _ _ _ | exact Mono.sliceCells _ _ _ | exact Mono.appendNew _ _ _ _ _ _ _ | exact Mono.chainD _ | exact Mono.appendOpen _ _ _ _ _ _ _ _ _ _ _ | exact Mono.appendCells _ _ _ _ _ | exact Mono.comesD _ _ _ _ | exact Mono.appendD _ _ _ _ | exact Mono.copyD _ _ _ | exact Mono.mapOf _ | exact Mono.keyGuard _ _ | exact Mono.lookupD _ _ _ _ | exact Mono.mapUpdateD _ _ _ _ | exact Mono.mapEntryD _ _ _ | exact Mono.entryStoreD _ _ _ | exact Mono.deleteD _ _ _ | exact Mono.rangeD _ _ | exact Mono.nextMapD _ _ _ _ _ | exact Mono.nextStrD _ _ _ | exact Mono.nextD _ _ | exact Mono.entryD _ | exact Mono.convTo _ _ | exact Mono.convD _ _ _ | exact Mono.tassertD _ _ _ | assumption | refine Mono.bind ?_ (fun _ => ?_) | split | dsimp only

theorem Mono.capB (t : Nat) (x : AV) : Mono (Pd.capB C t x) := by
  unfold Pd.capB
  repeat' first | exact Mono.pure _ | exact Mono.fail | exact Mono.lift _ | exact Mono.guard _ | exact Mono.mtD _ | exact Mono.rowD _ | exact Mono.objD _ | exact Mono.putObj _ _ | exact Mono.new _ | exact Mono.rdN _ _ _ | exact Mono.setCells _ _ _ | exact Mono.setMode _ _ _ | exact Mono.rd1 _ _ | exact Mono.wr _ _ _ | exact Mono.load _ _ | exact Mono.store _ _ _ | exact Mono.newCells _ _ | exact Mono.buildSliceD _ _ _ | exact Mono.makeSliceD _ _ _ | exact Mono.reachD _ _ _ _ _ | exact Mono.sliceD _ _ _ _ _ | exact Mono.sliceCells _ _ _ | exact Mono.appendNew _ _ _ _ _ _ _ | exact Mono.chainD _ | exact Mono.appendOpen _ _ _ _ _ _ _ _ _ _ _ | exact Mono.appendCells _ _ _ _ _ | exact Mono.comesD _ _ _ _ | exact Mono.appendD _ _ _ _ | exact Mono.copyD _ _ _ | exact Mono.mapOf _ | exact Mono.keyGuard _ _ | exact Mono.lookupD _ _ _ _ | exact Mono.mapUpdateD _ _ _ _ | exact Mono.mapEntryD _ _ _ | exact Mono.entryStoreD _ _ _ | exact Mono.deleteD _ _ _ | exact Mono.rangeD _ _ | exact Mono.nextMapD _ _ _ _ _ | exact Mono.nextStrD _ _ _ | exact Mono.nextD _ _ | exact Mono.entryD _ | exact Mono.convTo _ _ | exact Mono.convD _ _ _ | exact Mono.tassertD _ _ _ | exact Mono.lenB _ _ | assumption | refine Mono.bind ?_ (fun _ => ?_) | split | dsimp only

theorem Mono.clearB (t : Nat) (x : AV) : Mono (Pd.clearB C t x) := by
  unfold Pd.clearB
  repeat' first | exact Mono.pure _ | exact Mono.fail | exact Mono.lift _ | exact Mono.guard _ | exact Mono.mtD _ | exact Mono.rowD _ | exact Mono.objD _ | exact Mono.putObj _ _ | exact Mono.new _ | exact Mono.rdN _ _ _ | exact Mono.setCells _ _ _ | exact Mono.setMode _ _ _ | exact Mono.rd1 _ _ | exact Mono.wr _ _ _ | exact Mono.load _ _ | exact Mono.store _ _ _ | exact Mono.newCells _ _ | exact Mono.buildSliceD _ _ _ | exact Mono.makeSliceD _ _ _ | exact Mono.reachD _ _ _ _ _ | exact Mono.sliceD _ _ _ _ _ | exact Mono.sliceCells _ _ _ | exact Mono.appendNew _ _ _ _ _ _ _ | exact Mono.chainD _ | exact Mono.appendOpen _ _ _ _ _ _ _ _ _ _ _ | exact Mono.appendCells _ _ _ _ _ | exact Mono.comesD _ _ _ _ | exact Mono.appendD _ _ _ _ | exact Mono.copyD _ _ _ | exact Mono.mapOf _ | exact Mono.keyGuard _ _ | exact Mono.lookupD _ _ _ _ | exact Mono.mapUpdateD _ _ _ _ | exact Mono.mapEntryD _ _ _ | exact Mono.entryStoreD _ _ _ | exact Mono.deleteD _ _ _ | exact Mono.rangeD _ _ | exact Mono.nextMapD _ _ _ _ _ | exact Mono.nextStrD _ _ _ | exact Mono.nextD _ _ | exact Mono.entryD _ | exact Mono.convTo _ _ | exact Mono.convD _ _ _ | exact Mono.tassertD _ _ _ | exact Mono.lenB _ _ | exact Mono.capB _ _ | assumption | refine Mono.bind ?_ (fun _ => ?_) | split | dsimp only

theorem Mono.sliceDataB (x : AV) : Mono (Pd.sliceDataB x) := by
  unfold Pd.sliceDataB
  repeat' first | exact Mono.pure _ | exact Mono.fail | exact Mono.lift _ | exact Mono.guard _ | exact Mono.mtD _ | exact Mono.rowD _ | exact Mono.objD _ | exact Mono.putObj _ _ | exact Mono.new _ | exact Mono.rdN _ _ _ | exact Mono.setCells _ _ _ | exact Mono.setMode _ _ _ | exact Mono.rd1 _ _ | exact Mono.wr _ _ _ | exact Mono.load _ _ | exact Mono.store _ _ _ | exact Mono.newCells _ _ | exact Mono.buildSliceD _ _ _ | exact Mono.makeSliceD _ _ _ | exact Mono.reachD _ _ _ _ _ | exact Mono.sliceD _ _ _ _ _ | exact Mono.sliceCells _ _ _ | exact Mono.appendNew _ _ _ _ _ _ _ | exact Mono.chainD _ | exact Mono.appendOpen _ _ _ _ _ _ _ _ _ _ _ | exact Mono.appendCells _ _ _ _ _ | exact Mono.comesD _ _ _ _ | exact Mono.appendD _ _ _ _ | exact Mono.copyD _ _ _ | exact Mono.mapOf _ | exact Mono.keyGuard _ _ | exact Mono.lookupD _ _ _ _ | exact Mono.mapUpdateD _ _ _ _ | exact Mono.mapEntryD _ _ _ | exact Mono.entryStoreD _ _ _ | exact Mono.deleteD _ _ _ | exact Mono.rangeD _ _ | exact Mono.nextMapD _ _ _ _ _ | exact Mono.nextStrD _ _ _ | exact Mono.nextD _ _ | exact Mono.entryD _ | exact Mono.convTo _ _ | exact Mono.convD _ _ _ | exact Mono.tassertD _ _ _ | exact Mono.lenB _ _ | exact Mono.capB _ _ | exact Mono.clearB _ _ | assumption | refine Mono.bind ?_ (fun _ => ?_) | split | dsimp only

theorem Mono.stringB (t : Nat) (p k : AV) : Mono (Pd.stringB C t p k) := by
  unfold Pd.stringB
  repeat' first | exact Mono.pure _ | exact Mono.fail | exact Mono.lift _ | exact Mono.guard _ | exact Mono.mtD _ | exact Mono.rowD _ | exact Mono.objD _ | exact Mono.putObj _ _ | exact Mono.new _ | exact Mono.rdN _ _ _ | exact Mono.setCells _ _ _ | exact Mono.setMode _ _ _ | exact Mono.rd1 _ _ | exact Mono.wr _ _ _ | exact Mono.load _ _ | exact Mono.store _ _ _ | exact Mono.newCells _ _ | exact Mono.buildSliceD _ _ _ | exact Mono.makeSliceD _ _ _ | exact Mono.reachD _ _ _ _ _ | exact Mono.sliceD _ _ _ _ _ | exact Mono.sliceCells _ _ _ | exact Mono.appendNew _ _ _ _ _ _ _ | exact Mono.chainD _ | exact Mono.appendOpen _ _ _ _ _ _ _ _ _ _ _ | exact Mono.appendCells _ _ _ _ _ | exact Mono.comesD _ _ _ _ | exact Mono.appendD _ _ _ _ | exact Mono.copyD _ _ _ | exact Mono.mapOf _ | exact Mono.keyGuard _ _ | exact Mono.lookupD _ _ _ _ | exact Mono.mapUpdateD _ _ _ _ | exact Mono.mapEntryD _ _ _ | exact Mono.entryStoreD _ _ _ | exact Mono.deleteD _ _ _ | exact Mono.rangeD _ _ | exact Mono.nextMapD _ _ _ _ _ | exact Mono.nextStrD _ _ _ | exact Mono.nextD _ _ | exact Mono.entryD _ | exact Mono.convTo _ _ | exact Mono.convD _ _ _ | exact Mono.tassertD _ _ _ | exact Mono.lenB _ _ | exact Mono.capB _ _ | exact Mono.clearB _ _ | exact Mono.sliceDataB _ | assumption | refine Mono.bind ?_ (fun _ => ?_) | split | dsimp only

theorem Mono.fieldAddrD (t f : Nat) (x : AV) : Mono (Pd.fieldAddrD C t f x) := by
  unfold Pd.fieldAddrD
  repeat' first | exact Mono.pure _ | exact Mono.fail | exact Mono.lift _ | exact Mono.guard _ | exact Mono.mtD _ | exact Mono.rowD _ | exact Mono.objD _ | exact Mono.putObj _ _ | exact Mono.new _ | exact Mono.rdN _ _ _ | exact Mono.setCells _ _ _ | exact Mono.setMode _ _ _ | exact Mono.rd1 _ _ | exact Mono.wr _ _ _ | exact Mono.load _ _ | exact Mono.store _ _ _ | exact Mono.newCells _ _ | exact Mono.buildSliceD _ _ _ | exact Mono.makeSliceD _ _ _ | exact Mono.reachD _ _ _ _ _ | exact Mono.sliceD _ _ _ _ _ | exact Mono.sliceCells _ _ _ | exact Mono.appendNew _ _ _ _ _ _ _ | exact Mono.chainD _ | exact Mono.appendOpen _ _ _ _ _ _ _ _ _ _ _ | exact Mono.appendCells _ _ _ _ _ | exact Mono.comesD _ _ _ _ | exact Mono.appendD _ _ _ _ | exact Mono.copyD _ _ _ | exact Mono.mapOf _ | exact Mono.keyGuard _ _ | exact Mono.lookupD _ _ _ _ | exact Mono.mapUpdateD _ _ _ _ | exact Mono.mapEntryD _ _ _ | exact Mono.entryStoreD _ _ _ | exact Mono.deleteD _ _ _ | exact Mono.rangeD _ _ | exact Mono.nextMapD _ _ _ _ _ | exact Mono.nextStrD _ _ _ | exact Mono.nextD _ _ | exact Mono.entryD _ | exact Mono.convTo _ _ | exact Mono.convD _ _ _ | exact Mono.tassertD _ _ _ | exact Mono.lenB _ _ | exact Mono.capB _ _ | exact Mono.clearB _ _ | exact Mono.sliceDataB _ | exact Mono.stringB _ _ _ | assumption | refine Mono.bind ?_ (fun _ => ?_) | split | dsimp only

theorem Mono.fieldD (t f : Nat) (x : AV) : Mono (Pd.fieldD C t f x) := by
  unfold Pd.fieldD
  repeat' first | exact Mono.pure _ | exact Mono.fail | exact Mono.lift _ | exact Mono.guard _ | exact Mono.mtD _ | exact Mono.rowD _ | exact Mono.objD _ | exact Mono.putObj _ _ | exact Mono.new _ | exact Mono.rdN _ _ _ | exact Mono.setCells _ _ _ | exact Mono.setMode _ _ _ | exact Mono.rd1 _ _ | exact Mono.wr _ _ _ | exact Mono.load _ _ | exact Mono.store _ _ _ | exact Mono.newCells _ _ | exact Mono.buildSliceD _ _ _ | exact Mono.makeSliceD _ _ _ | exact Mono.reachD _ _ _ _ _ | exact Mono.sliceD _ _ _ _ _ | exact Mono.sliceCells _ _ _ | exact Mono.appendNew _ _ _ _ _ _ _ | exact Mono.chainD _ | exact Mono.appendOpen _ _ _ _ _ _ _ _ _ _ _ | exact Mono.appendCells _ _ _ _ _ | exact Mono.comesD _ _ _ _ | exact Mono.appendD _ _ _ _ | exact Mono.copyD _ _ _ | exact Mono.mapOf _ | exact Mono.keyGuard _ _ | exact Mono.lookupD _ _ _ _ | exact Mono.mapUpdateD _ _ _ _ | exact Mono.mapEntryD _ _ _ | exact Mono.entryStoreD _ _ _ | exact Mono.deleteD _ _ _ | exact Mono.rangeD _ _ | exact Mono.nextMapD _ _ _ _ _ | exact Mono.nextStrD _ _ _ | exact Mono.nextD _ _ | exact Mono.entryD _ | exact Mono.convTo _ _ | exact Mono.convD _ _ _ | exact Mono.tassertD _ _ _ | exact Mono.lenB _ _ | exact Mono.capB _ _ | exact Mono.clearB _ _ | exact Mono.sliceDataB _ | exact Mono.stringB _ _ _ | exact Mono.fieldAddrD _ _ _ | assumption | refine Mono.bind ?_ (fun _ => ?_) | split | dsimp only

theorem Mono.indexAddrD (t : Nat) (x i : AV) : Mono (Pd.indexAddrD C t x i) := by
  unfold Pd.indexAddrD
  repeat' first | exact Mono.pure _ | exact Mono.fail | exact Mono.lift _ | exact Mono.guard _ | exact Mono.mtD _ | exact Mono.rowD _ | exact Mono.objD _ | exact Mono.putObj _ _ | exact Mono.new _ | exact Mono.rdN _ _ _ | exact Mono.setCells _ _ _ | exact Mono.setMode _ _ _ | exact Mono.rd1 _ _ | exact Mono.wr _ _ _ | exact Mono.load _ _ | exact Mono.store _ _ _ | exact Mono.newCells _ _ | exact Mono.buildSliceD _ _ _ | exact Mono.makeSliceD _ _ _ | exact Mono.reachD _ _ _ _ _ | exact Mono.sliceD _ _ _ _ _ | exact Mono.sliceCells _ _ _ | exact Mono.appendNew _ _ _ _ _ _ _ | exact Mono.chainD _ | exact Mono.appendOpen _ _ _ _ _ _ _ _ _ _ _ | exact Mono.appendCells _ _ _ _ _ | exact Mono.comesD _ _ _ _ | exact Mono.appendD _ _ _ _ | exact Mono.copyD _ _ _ | exact Mono.mapOf _ | exact Mono.keyGuard _ _ | exact Mono.lookupD _ _ _ _ | exact Mono.mapUpdateD _ _ _ _ | exact Mono.mapEntryD _ _ _ | exact Mono.entryStoreD _ _ _ | exact Mono.deleteD _ _ _ | exact Mono.rangeD _ _ | exact Mono.nextMapD _ _ _ _ _ | exact Mono.nextStrD _ _ _ | exact Mono.nextD _ _ | exact Mono.entryD _ | exact Mono.convTo _ _ | exact Mono.convD _ _ _ | exact Mono.tassertD _ _ _ | exact Mono.lenB _ _ | exact Mono.capB _ _ | exact Mono.clearB _ _ | exact Mono.sliceDataB _ | exact Mono.stringB _ _ _ | exact Mono.fieldAddrD _ _ _ | exact Mono.fieldD _ _ _ | assumption | refine Mono.bind ?_ (fun _ => ?_) | split | dsimp only

theorem Mono.indexD (t : Nat) (x i : AV) : Mono (Pd.indexD C t x i) := by
  unfold Pd.indexD
  repeat' first | exact Mono.pure _ | exact Mono.fail | exact Mono.lift _ | exact Mono.guard _ | exact Mono.mtD _ | exact Mono.rowD _ | exact Mono.objD _ | exact Mono.putObj _ _ | exact Mono.new _ | exact Mono.rdN _ _ _ | exact Mono.setCells _ _ _ | exact Mono.setMode _ _ _ | exact Mono.rd1 _ _ | exact Mono.wr _ _ _ | exact Mono.load _ _ | exact Mono.store _ _ _ | exact Mono.newCells _ _ | exact Mono.buildSliceD _ _ _ | exact Mono.makeSliceD _ _ _ | exact Mono.reachD _ _ _ _ _ | exact Mono.sliceD _ _ _ _ _ | exact Mono.sliceCells _ _ _ | exact Mono.appendNew _ _ _ _ _ _ _ | exact Mono.chainD _ | exact Mono.appendOpen _ _ _ _ _ _ _ _ _ _ _ | exact Mono.appendCells _ _ _ _ _ | exact Mono.comesD _ _ _ _ | exact Mono.appendD _ _ _ _ | exact Mono.copyD _ _ _ | exact Mono.mapOf _ | exact Mono.keyGuard _ _ | exact Mono.lookupD _ _ _ _ | exact Mono.mapUpdateD _ _ _ _ | exact Mono.mapEntryD _ _ _ | exact Mono.entryStoreD _ _ _ | exact Mono.deleteD _ _ _ | exact Mono.rangeD _ _ | exact Mono.nextMapD _ _ _ _ _ | exact Mono.nextStrD _ _ _ | exact Mono.nextD _ _ | exact Mono.entryD _ | exact Mono.convTo _ _ | exact Mono.convD _ _ _ | exact Mono.tassertD _ _ _ | exact Mono.lenB _ _ | exact Mono.capB _ _ | exact Mono.clearB _ _ | exact Mono.sliceDataB _ | exact Mono.stringB _ _ _ | exact Mono.fieldAddrD _ _ _ | exact Mono.fieldD _ _ _ | exact Mono.indexAddrD _ _ _ | assumption | refine Mono.bind ?_ (fun _ => ?_) | split | dsimp only

theorem Mono.makeMapD (t : Nat) : Mono (Pd.makeMapD C t) := by
  unfold Pd.makeMapD
  repeat' first | exact Mono.pure _ | exact Mono.fail | exact Mono.lift _ | exact Mono.guard _ | exact Mono.mtD _ | exact Mono.rowD _ | exact Mono.objD _ | exact Mono.putObj _ _ | exact Mono.new _ | exact Mono.rdN _ _ _ | exact Mono.setCells _ _ _ | exact Mono.setMode _ _ _ | exact Mono.rd1 _ _ | exact Mono.wr _ _ _ | exact Mono.load _ _ | exact Mono.store _ _ _ | exact Mono.newCells _ _ | exact Mono.buildSliceD _ _ _ | exact Mono.makeSliceD _ _ _ | exact Mono.reachD _ _ _ _ _ | exact Mono.sliceD _ _ _ _ _ | exact Mono.sliceCells _ _ _ | exact Mono.appendNew _ _ _ _ _ _ _ | exact Mono.chainD _ | exact Mono.appendOpen _ _ _ _ _ _ _ _ _ _ _ | exact Mono.appendCells _ _ _ _ _ | exact Mono.comesD _ _ _ _ | exact Mono.appendD _ _ _ _ | exact Mono.copyD _ _ _ | exact Mono.mapOf _ | exact Mono.keyGuard _ _ | exact Mono.lookupD _ _ _ _ | exact Mono.mapUpdateD _ _ _ _ | exact Mono.mapEntryD _ _ _ | exact Mono.entryStoreD _ _ _ | exact Mono.deleteD _ _ _ | exact Mono.rangeD _ _ | exact Mono.nextMapD _ _ _ _ _ | exact Mono.nextStrD _ _ _ | exact Mono.nextD _ _ | exact Mono.entryD _ | exact Mono.convTo _ _ | exact Mono.convD _ _ _ | exact Mono.tassertD _ _ _ | exact Mono.lenB _ _ | exact Mono.capB _ _ | exact Mono.clearB _ _ | exact Mono.sliceDataB _ | exact Mono.stringB _ _ _ | exact Mono.fieldAddrD _ _ _ | exact Mono.fieldD _ _ _ | exact Mono.indexAddrD _ _ _ | exact Mono.indexD _ _ _ | assumption | refine Mono.bind ?_ (fun _ => ?_) | split | dsimp only

theorem Mono.panicD (x : AV) : Mono (Pd.panicD x) := by
  unfold Pd.panicD
  repeat' first | exact Mono.pure _ | exact Mono.fail | exact Mono.lift _ | exact Mono.guard _ | exact Mono.mtD _ | exact Mono.rowD _ | exact Mono.objD _ | exact Mono.putObj _ _ | exact Mono.new _ | exact Mono.rdN _ _ _ | exact Mono.setCells _ _ _ | exact Mono.setMode _ _ _ | exact Mono.rd1 _ _ | exact Mono.wr _ _ _ | exact Mono.load _ _ | exact Mono.store _ _ _ | exact Mono.newCells _ _ | exact Mono.buildSliceD _ _ _ | exact Mono.makeSliceD _ _ _ | exact Mono.reachD _ _ _ _ _ | exact Mono.sliceD _ _ _ _ _ | exact Mono.sliceCells _ _ _ | exact Mono.appendNew _ _ _ _ _ _ _ | exact Mono.chainD _ | exact Mono.appendOpen _ _ _ _ _ _ _ _ _ _ _ | exact Mono.appendCells _ _ _ _ _ | exact Mono.comesD _ _ _ _ | exact Mono.appendD _ _ _ _ | exact Mono.copyD _ _ _ | exact Mono.mapOf _ | exact Mono.keyGuard _ _ | exact Mono.lookupD _ _ _ _ | exact Mono.mapUpdateD _ _ _ _ | exact Mono.mapEntryD _ _ _ | exact Mono.entryStoreD _ _ _ | exact Mono.deleteD _ _ _ | exact Mono.rangeD _ _ | exact Mono.nextMapD _ _ _ _ _ | exact Mono.nextStrD _ _ _ | exact Mono.nextD _ _ | exact Mono.entryD _ | exact Mono.convTo _ _ | exact Mono.convD _ _ _ | exact Mono.tassertD _ _ _ | exact Mono.lenB _ _ | exact Mono.capB _ _ | exact Mono.clearB _ _ | exact Mono.sliceDataB _ | exact Mono.stringB _ _ _ | exact Mono.fieldAddrD _ _ _ | exact Mono.fieldD _ _ _ | exact Mono.indexAddrD _ _ _ | exact Mono.indexD _ _ _ | exact Mono.makeMapD _ | assumption | refine Mono.bind ?_ (fun _ => ?_) | split | dsimp only

theorem Mono.deferD (x : Callee' × List AV) : Mono (Pd.deferD x) := by
  unfold Pd.deferD
  repeat' first | exact Mono.pure _ | exact Mono.fail | exact Mono.lift _ | exact Mono.guard _ | exact Mono.mtD _ | exact Mono.rowD _ | exact Mono.objD _ | exact Mono.putObj _ _ | exact Mono.new _ | exact Mono.rdN _ _ _ | exact Mono.setCells _ _ _ | exact Mono.setMode _ _ _ | exact Mono.rd1 _ _ | exact Mono.wr _ _ _ | exact Mono.load _ _ | exact Mono.store _ _ _ | exact Mono.newCells _ _ | exact Mono.buildSliceD _ _ _ | exact Mono.makeSliceD _ _ _ | exact Mono.reachD _ _ _ _ _ | exact Mono.sliceD _ _ _ _ _ | exact Mono.sliceCells _ _ _ | exact Mono.appendNew _ _ _ _ _ _ _ | exact Mono.chainD _ | exact Mono.appendOpen _ _ _ _ _ _ _ _ _ _ _ | exact Mono.appendCells _ _ _ _ _ | exact Mono.comesD _ _ _ _ | exact Mono.appendD _ _ _ _ | exact Mono.copyD _ _ _ | exact Mono.mapOf _ | exact Mono.keyGuard _ _ | exact Mono.lookupD _ _ _ _ | exact Mono.mapUpdateD _ _ _ _ | exact Mono.mapEntryD _ _ _ | exact Mono.entryStoreD _ _ _ | exact Mono.deleteD _ _ _ | exact Mono.rangeD _ _ | exact Mono.nextMapD _ _ _ _ _ | exact Mono.nextStrD _ _ _ | exact Mono.nextD _ _ | exact Mono.entryD _ | exact Mono.convTo _ _ | exact Mono.convD _ _ _ | exact Mono.tassertD _ _ _ | exact Mono.lenB _ _ | exact Mono.capB _ _ | exact Mono.clearB _ _ | exact Mono.sliceDataB _ | exact Mono.stringB _ _ _ | exact Mono.fieldAddrD _ _ _ | exact Mono.fieldD _ _ _ | exact Mono.indexAddrD _ _ _ | exact Mono.indexD _ _ _ | exact Mono.makeMapD _ | exact Mono.panicD _ | assumption | refine Mono.bind ?_ (fun _ => ?_) | split | dsimp only

theorem Mono.opVal {m : DM AV} (h : Mono m) : Mono (Pd.opVal m) := Mono.bind h fun _ => Mono.pure _
theorem Mono.opUnit {m : DM Unit} (h : Mono m) : Mono (Pd.opUnit m) := Mono.bind h fun _ => Mono.pure _
theorem Mono.recoverB : Mono Pd.recoverB := by
  intro s k h a s' hs
  unfold Pd.recoverB at hs ⊢
  rw [h.rc]
  cases hr : s.rc with
  | none => rw [hr] at hs; cases hs; exact ⟨k, rfl, Post.refl h⟩
  | some p =>
    obtain ⟨v, b⟩ := p
    rw [hr] at hs
    cases b with
    | true => cases hs
    | false =>
      cases hs
      exact ⟨_, rfl, ⟨⟨h.ctr, h.base, rfl, h.bc, h.inv, h.at_, h.own⟩, rfl, rfl, rfl, Nat.le_refl _, [], rfl, rfl, by simp, by simp [tch], fun p _ => ⟨by simp [tch], fun _ => ⟨rfl, rfl⟩⟩⟩⟩

theorem Mono.builtinD (b : Builtin) (ts : List Nat) (args : List AV) : Mono (Pd.builtinD C b ts args) := by
  unfold Pd.builtinD
  repeat' first | exact Mono.pure _ | exact Mono.fail | exact Mono.lift _ | exact Mono.guard _ | exact Mono.mtD _ | exact Mono.rowD _ | exact Mono.objD _ | exact Mono.putObj _ _ | exact Mono.new _ | exact Mono.rdN _ _ _ | exact Mono.setCells _ _ _ | exact Mono.setMode _ _ _ | exact Mono.rd1 _ _ | exact Mono.wr _ _ _ | exact Mono.load _ _ | exact Mono.store _ _ _ | exact Mono.newCells _ _ | exact Mono.buildSliceD _ _ _ | exact Mono.makeSliceD _ _ _ | exact Mono.reachD _ _ _ _ _ | exact Mono.sliceD _ _ _ _ _ | exact Mono.sliceCells _ _ _ | exact Mono.appendNew _ _ _ _ _ _ _ | exact Mono.chainD _ | exact Mono.appendOpen _ _ _ _ _ _ _ _ _ _ _ | exact Mono.appendCells _ _ _ _ _ | exact Mono.comesD _ _ _ _ | exact Mono.appendD _ _ _ _ | exact Mono.copyD _ _ _ | exact Mono.mapOf _ | exact Mono.keyGuard _ _ | exact Mono.lookupD _ _ _ _ | exact Mono.mapUpdateD _ _ _ _ | exact Mono.mapEntryD _ _ _ | exact Mono.entryStoreD _ _ _ | exact Mono.deleteD _ _ _ | exact Mono.rangeD _ _ | exact Mono.nextMapD _ _ _ _ _ | exact Mono.nextStrD _ _ _ | exact Mono.nextD _ _ | exact Mono.entryD _ | exact Mono.convTo _ _ | exact Mono.convD _ _ _ | exact Mono.tassertD _ _ _ | exact Mono.lenB _ _ | exact Mono.capB _ _ | exact Mono.clearB _ _ | exact Mono.sliceDataB _ | exact Mono.stringB _ _ _ | exact Mono.fieldAddrD _ _ _ | exact Mono.fieldD _ _ _ | exact Mono.indexAddrD _ _ _ | exact Mono.indexD _ _ _ | exact Mono.makeMapD _ | exact Mono.panicD _ | exact Mono.deferD _ | exact Mono.recoverB | assumption | refine Mono.opVal ?_ | refine Mono.opUnit ?_ | refine Mono.bind ?_ (fun _ => ?_) | split

theorem Mono.callOpD {K : CallFn} (hK : ∀ c a, Mono (K c a)) (fr : Fr) (o : Call) : Mono (Pd.callOpD C K fr o) := by
  unfold Pd.callOpD
  repeat' first | exact Mono.pure _ | exact Mono.fail | exact Mono.lift _ | exact Mono.guard _ | exact Mono.mtD _ | exact Mono.rowD _ | exact Mono.objD _ | exact Mono.putObj _ _ | exact Mono.new _ | exact Mono.rdN _ _ _ | exact Mono.setCells _ _ _ | exact Mono.setMode _ _ _ | exact Mono.rd1 _ _ | exact Mono.wr _ _ _ | exact Mono.load _ _ | exact Mono.store _ _ _ | exact Mono.newCells _ _ | exact Mono.buildSliceD _ _ _ | exact Mono.makeSliceD _ _ _ | exact Mono.reachD _ _ _ _ _ | exact Mono.sliceD _ _ _ _ _ | exact Mono.sliceCells _ _ _ | exact Mono.appendNew _ _ _ _ _ _ _ | exact Mono.chainD _ | exact Mono.appendOpen _ _ _ _ _ _ _ _ _ _ _ | exact Mono.appendCells _ _ _ _ _ | exact Mono.comesD _ _ _ _ | exact Mono.appendD _ _ _ _ | exact Mono.copyD _ _ _ | exact Mono.mapOf _ | exact Mono.keyGuard _ _ | exact Mono.lookupD _ _ _ _ | exact Mono.mapUpdateD _ _ _ _ | exact Mono.mapEntryD _ _ _ | exact Mono.entryStoreD _ _ _ | exact Mono.deleteD _ _ _ | exact Mono.rangeD _ _ | exact Mono.nextMapD _ _ _ _ _ | exact Mono.nextStrD _ _ _ | exact Mono.nextD _ _ | exact Mono.entryD _ | exact Mono.convTo _ _ | exact Mono.convD _ _ _ | exact Mono.tassertD _ _ _ | exact Mono.lenB _ _ | exact Mono.capB _ _ | exact Mono.clearB _ _ | exact Mono.sliceDataB _ | exact Mono.stringB _ _ _ | exact Mono.fieldAddrD _ _ _ | exact Mono.fieldD _ _ _ | exact Mono.indexAddrD _ _ _ | exact Mono.indexD _ _ _ | exact Mono.makeMapD _ | exact Mono.panicD _ | exact Mono.deferD _ | exact Mono.builtinD _ _ _ | exact hK _ _ | assumption | refine Mono.opVal ?_ | refine Mono.opUnit ?_ | refine Mono.bind ?_ (fun _ => ?_) | split

theorem Mono.opD {K : CallFn} (hK : ∀ c a, Mono (K c a)) (fr : Fr) (o : Oper) : Mono (Pd.opD C K fr o) := by
  unfold Pd.opD
  repeat' first | exact Mono.pure _ | exact Mono.fail | exact Mono.lift _ | exact Mono.guard _ | exact Mono.mtD _ | exact Mono.rowD _ | exact Mono.objD _ | exact Mono.putObj _ _ | exact Mono.new _ | exact Mono.rdN _ _ _ | exact Mono.setCells _ _ _ | exact Mono.setMode _ _ _ | exact Mono.rd1 _ _ | exact Mono.wr _ _ _ | exact Mono.load _ _ | exact Mono.store _ _ _ | exact Mono.newCells _ _ | exact Mono.buildSliceD _ _ _ | exact Mono.makeSliceD _ _ _ | exact Mono.reachD _ _ _ _ _ | exact Mono.sliceD _ _ _ _ _ | exact Mono.sliceCells _ _ _ | exact Mono.appendNew _ _ _ _ _ _ _ | exact Mono.chainD _ | exact Mono.appendOpen _ _ _ _ _ _ _ _ _ _ _ | exact Mono.appendCells _ _ _ _ _ | exact Mono.comesD _ _ _ _ | exact Mono.appendD _ _ _ _ | exact Mono.copyD _ _ _ | exact Mono.mapOf _ | exact Mono.keyGuard _ _ | exact Mono.lookupD _ _ _ _ | exact Mono.mapUpdateD _ _ _ _ | exact Mono.mapEntryD _ _ _ | exact Mono.entryStoreD _ _ _ | exact Mono.deleteD _ _ _ | exact Mono.rangeD _ _ | exact Mono.nextMapD _ _ _ _ _ | exact Mono.nextStrD _ _ _ | exact Mono.nextD _ _ | exact Mono.entryD _ | exact Mono.convTo _ _ | exact Mono.convD _ _ _ | exact Mono.tassertD _ _ _ | exact Mono.lenB _ _ | exact Mono.capB _ _ | exact Mono.clearB _ _ | exact Mono.sliceDataB _ | exact Mono.stringB _ _ _ | exact Mono.fieldAddrD _ _ _ | exact Mono.fieldD _ _ _ | exact Mono.indexAddrD _ _ _ | exact Mono.indexD _ _ _ | exact Mono.makeMapD _ | exact Mono.panicD _ | exact Mono.deferD _ | exact Mono.callOpD hK _ _ | exact hK _ _ | assumption | refine Mono.opVal ?_ | refine Mono.opUnit ?_ | refine Mono.bind ?_ (fun _ => ?_) | split

theorem Mono.seqD {K : CallFn} (hK : ∀ c a, Mono (K c a)) (ops : Array Oper) : ∀ (l : List Oper) (fr : Fr), Mono (Pd.seqD C K ops l fr)
  | [], fr => Mono.pure _
  | o :: rest, fr => by
    have ih := Mono.seqD hK ops rest
    unfold Pd.seqD
    repeat' first | exact Mono.pure _ | exact Mono.lift _ | exact Mono.opD hK _ _ | exact ih _ | refine Mono.bind ?_ (fun _ => ?_) | split

theorem Mono.extD (e : Ext) (args : List AV) : Mono (Pd.extD e args) := by
  unfold Pd.extD
  repeat' first | exact Mono.pure _ | exact Mono.fail | exact Mono.lift _ | exact Mono.guard _ | exact Mono.mtD _ | exact Mono.rowD _ | exact Mono.objD _ | exact Mono.putObj _ _ | exact Mono.new _ | exact Mono.rdN _ _ _ | exact Mono.setCells _ _ _ | exact Mono.setMode _ _ _ | exact Mono.rd1 _ _ | exact Mono.wr _ _ _ | exact Mono.load _ _ | exact Mono.store _ _ _ | exact Mono.newCells _ _ | exact Mono.buildSliceD _ _ _ | exact Mono.makeSliceD _ _ _ | exact Mono.reachD _ _ _ _ _ | exact Mono.sliceD _ _ _ _ _ | exact Mono.sliceCells _ _ _ | exact Mono.appendNew _ _ _ _ _ _ _ | exact Mono.chainD _ | exact Mono.appendOpen _ _ _ _ _ _ _ _ _ _ _ | exact Mono.appendCells _ _ _ _ _ | exact Mono.comesD _ _ _ _ | exact Mono.appendD _ _ _ _ | exact Mono.copyD _ _ _ | exact Mono.mapOf _ | exact Mono.keyGuard _ _ | exact Mono.lookupD _ _ _ _ | exact Mono.mapUpdateD _ _ _ _ | exact Mono.mapEntryD _ _ _ | exact Mono.entryStoreD _ _ _ | exact Mono.deleteD _ _ _ | exact Mono.rangeD _ _ | exact Mono.nextMapD _ _ _ _ _ | exact Mono.nextStrD _ _ _ | exact Mono.nextD _ _ | exact Mono.entryD _ | exact Mono.convTo _ _ | exact Mono.convD _ _ _ | exact Mono.tassertD _ _ _ | exact Mono.lenB _ _ | exact Mono.capB _ _ | exact Mono.clearB _ _ | exact Mono.sliceDataB _ | exact Mono.stringB _ _ _ | exact Mono.fieldAddrD _ _ _ | exact Mono.fieldD _ _ _ | exact Mono.indexAddrD _ _ _ | exact Mono.indexD _ _ _ | exact Mono.makeMapD _ | exact Mono.panicD _ | exact Mono.deferD _ |  assumption | refine Mono.opVal ?_ | refine Mono.opUnit ?_ | refine Mono.bind ?_ (fun _ => ?_) | split


theorem Mono.iter {body : Fr → DM (Ex × Fr)} (h : ∀ fr, Mono (body fr)) : ∀ (n : Nat) (fr : Fr), Mono (Pd.iter body n fr)
  | 0, fr => Mono.fail
  | n + 1, fr => by
    have ih := Mono.iter h n
    unfold Pd.iter
    repeat' first | exact Mono.pure _ | exact h _ | exact ih _ | refine Mono.bind ?_ (fun _ => ?_) | split

theorem Mono.pendingD (c : Option Code) (fr : Fr) : Mono (Pd.pendingD c fr) := by
  unfold Pd.pendingD
  repeat' first | exact Mono.pure _ | exact Mono.fail | split

theorem Mono.rangeHeadD (fr : Fr) : Mono (Pd.rangeHeadD fr) := by
  unfold Pd.rangeHeadD
  repeat' first | exact Mono.pure _ | exact Mono.fail | exact Mono.objD _ | exact Mono.new _ | refine Mono.bind ?_ (fun _ => ?_) | split

theorem Mono.rangeFuncD {K : CallFn} (hK : ∀ c a, Mono (K c a)) (fr : Fr) (g : Operand) (ps : Array Tmp) (a b : Code) : Mono (Pd.rangeFuncD K fr g ps a b) := by
  unfold Pd.rangeFuncD
  repeat' first | exact Mono.rangeHeadD _ | exact Mono.pure _ | exact Mono.fail | exact Mono.lift _ | exact Mono.guard _ | exact Mono.objD _ | exact Mono.putObj _ _ | exact Mono.new _ | exact Mono.pendingD _ _ | exact hK _ _ | refine Mono.bind ?_ (fun _ => ?_) | split

theorem Mono.resultOne (fr : Fr) (r : ResultVar) : Mono (Pd.resultOne C fr r) := by
  unfold Pd.resultOne
  repeat' first | exact Mono.pure _ | exact Mono.lift _ | exact Mono.load _ _ | refine Mono.bind ?_ (fun _ => ?_) | split

theorem Mono.resultsD (fr : Fr) : ∀ (l : List ResultVar), Mono (Pd.resultsD C fr l)
  | [] => Mono.pure _
  | r :: rs => Mono.bind (Mono.resultOne fr r) fun _ => Mono.bind (Mono.resultsD fr rs) fun _ => Mono.pure _

theorem Le.setRc {s k : St} (h : Le s k) (r : Option (AV × Bool)) : Le { s with rc := r } { k with rc := r } := ⟨h.ctr, h.base, rfl, h.bc, h.inv, h.at_, h.own⟩

theorem Post.setRc {s s' k k' : St} (h : Post s s' k k') (r r' : Option (AV × Bool)) : Post { s with rc := r } { s' with rc := r' } { k with rc := r } { k' with rc := r' } :=
  ⟨Le.setRc h.le r', h.inv, h.inv', h.base, h.ctr, h.log⟩

theorem Mono.unwindD {K : CallFn} (hK : ∀ c a, Mono (K c a)) : ∀ (ds : List AD) (p : Option AV), Mono (Pd.unwindD K ds p)
  | [], p => Mono.pure _
  | .mark r :: ds, p => by
    have ih := Mono.unwindD hK ds
    unfold Pd.unwindD
    repeat' first | exact Mono.fail | exact ih _ | exact Mono.objD _ | exact Mono.putObj _ _ | refine Mono.bind ?_ (fun _ => ?_) | split
  | .call f args :: ds, p => by
    intro s k h a s' hs
    unfold Pd.unwindD at hs ⊢
    simp only [St.withRc_eq] at hs ⊢
    cases hc : K (.fn f) args ({ s with rc := rcFor p } : St) with
    | none => rw [hc] at hs; cases hs
    | some x =>
      obtain ⟨r, s1⟩ := x
      rw [hc] at hs
      obtain ⟨k1, e1, p1⟩ := hK (.fn f) args _ _ (h.setRc _) r s1 hc
      rw [e1]
      cases r with
      | pan v => cases hs
      | ret v =>
        have q := p1.setRc s.rc s.rc
        have hrc := h.rc
        have e0 : ({ k with rc := s.rc } : St) = k := by rw [← hrc]
        rw [e0] at q
        have h1 := p1.le.rc
        cases p with
        | none =>
          cases hr : s1.rc with
          | none =>
            rw [hr] at h1
            simp only [hr] at hs
            simp only [h1, hrc]
            obtain ⟨k2, e4, p2⟩ := Mono.unwindD hK ds none _ _ q.le a s' hs
            exact ⟨k2, e4, Post.trans q p2⟩
          | some y => simp only [hr] at hs; cases hs
        | some v' =>
          cases hr : s1.rc with
          | none => simp only [hr] at hs; cases hs
          | some y =>
            obtain ⟨w, b⟩ := y
            rw [hr] at h1
            simp only [hr] at hs
            simp only [h1, hrc]
            obtain ⟨k2, e4, p2⟩ := Mono.unwindD hK ds _ _ _ q.le a s' hs
            exact ⟨k2, e4, Post.trans q p2⟩

theorem Mono.leaveD {K : CallFn} (hK : ∀ c a, Mono (K c a)) (rs : List ResultVar) (ex : Ex) (fr : Fr) : Mono (Pd.leaveD C K rs ex fr) := by
  unfold Pd.leaveD
  repeat' first | exact Mono.pure _ | exact Mono.fail | exact Mono.unwindD hK _ _ | exact Mono.resultsD _ _ | refine Mono.bind ?_ (fun _ => ?_) | split

theorem Mono.plainCall {m : DM Res} (h : Mono m) : Mono (Pd.plainCall m) := by
  intro s k hl a s' hs
  unfold Pd.plainCall at hs ⊢
  simp only [St.withRc_eq] at hs ⊢
  split at hs
  · rename_i r s1 hm
    cases hs
    obtain ⟨k1, e1, p1⟩ := h _ _ (hl.setRc none) _ _ hm
    rw [e1]
    refine ⟨_, rfl, ?_⟩
    have q := p1.setRc s.rc s.rc
    have e0 : ({ k with rc := s.rc } : St) = k := by rw [← hl.rc]
    rw [e0] at q
    rw [hl.rc]
    exact q
  · cases hs
end Pd
