/- Devices: the reference. -/
import Derived.Test.YtfmldmafigpblaaDoorBlank
import Derived.Test.YtfmldmafigpblaaDoorRef06
namespace Go.Proofs.YtfmldmafigpblaaDoor
open Go.Lift
set_option linter.unusedSimpArgs false
set_option linter.unusedVariables false
set_option maxRecDepth 10000
def devOk (o : GObject) : Bool := o.Kind == 9 && !(o.ID == 0) && onlyB o 2048
theorem dev_bare (o : GObject) : onlyB o 2048 = bareB { o with Count := 0 } := by
  have h1 : bitI .andNot .i64 1 2048 = 1 := by decide
  have h2 : bitI .andNot .i64 2 2048 = 2 := by decide
  have h3 : bitI .andNot .i64 4 2048 = 4 := by decide
  have h4 : bitI .andNot .i64 8 2048 = 8 := by decide
  have h5 : bitI .andNot .i64 16 2048 = 16 := by decide
  have h6 : bitI .andNot .i64 32 2048 = 32 := by decide
  have h7 : bitI .andNot .i64 64 2048 = 64 := by decide
  have h8 : bitI .andNot .i64 128 2048 = 128 := by decide
  have h9 : bitI .andNot .i64 256 2048 = 256 := by decide
  have h10 : bitI .andNot .i64 512 2048 = 512 := by decide
  have h11 : bitI .andNot .i64 1024 2048 = 1024 := by decide
  have h12 : bitI .andNot .i64 2048 2048 = 0 := by decide
  have h13 : bitI .andNot .i64 4096 2048 = 4096 := by decide
  apply Bool.eq_iff_iff.2
  simp [onlyB, okB, bareB, h1, h2, h3, h4, h5, h6, h7, h8, h9, h10, h11, h12, h13]
  constructor <;> (intro h; simp [h])
def devDo (o : GObject) (v : Int) : Int × GObject × Int := if devOk o then (o.Count, { o with Count := IntKind.i64.wrap (o.Count + v) }, 0) else (0, default, 1)
def r3o (x : Int × GObject × Int) : SV := .tup [.int .i64 x.1, .agg x.2.1.c, .int .i64 x.2.2]
end Go.Proofs.YtfmldmafigpblaaDoor
