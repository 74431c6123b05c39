/-
  Readings of arguments. Printed by a program of ours (gen_read.py).
-/
import Derived.Test.YtfmldmafigpblaaDoorEnv
import Derived.Test.YtfmldmafigpblaaDoorLiftW
namespace Go.Proofs.YtfmldmafigpblaaDoor
open Go.Lift
set_option linter.unusedSimpArgs false
set_option linter.unusedVariables false
set_option maxRecDepth 100000
theorem Tryd.own : ownKnob Tryd.prog.godebug = none := by kernel_rfl
theorem Tryd.laidOut : laidOutB Tryd.prog = true := by kernel_rfl
theorem rd_5 : RD Tryd.prog 5 ((intC .u8)) (fun x => (Lit.int .u8 x).wf = true) := RD.int Tryd.underlying5
theorem rv_5 : RDV Tryd.prog 5 (fun n => .int .u8 n) (fun x => (Lit.int .u8 x).wf = true) := RDV.cell (by kernel_rfl) rd_5
theorem rd_22 : RD Tryd.prog 22 (fun l => [slL 1 (intC .u8) default l]) (fun x => (x.length ≤ maxLen ∧ ∀ z0 ∈ x, (Lit.int .u8 z0).wf = true)) := RD.slice (c := (intC .u8)) Tryd.underlying22 (show Tryd.prog.cellsOf 5 = 1 by kernel_rfl) (by decide) (fun _ => rfl) rd_5
theorem rv_22 : RDV Tryd.prog 22 (fun l => slL 1 (intC .u8) default l) (fun x => (x.length ≤ maxLen ∧ ∀ z0 ∈ x, (Lit.int .u8 z0).wf = true)) := RDV.cell (by kernel_rfl) rd_22
end Go.Proofs.YtfmldmafigpblaaDoor
