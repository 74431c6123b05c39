/- Programs: which instructions are right. -/
import Derived.Test.YtfmldmafigpblaaDoorFin2
import Derived.Test.YtfmldmafigpblaaDoorSpace
namespace Go.Proofs.YtfmldmafigpblaaDoor
open Go.Lift
set_option linter.unusedSimpArgs false
set_option linter.unusedVariables false
set_option maxRecDepth 10000
theorem ec_long (s : List UInt8) : EC Tryd.prog 25 [.str s] [] fun r N => N = [] ∧ r = .bool (decide (128 < (s.length : Int))) := by
  refine EC.finK ?_
  (refine EC.enterK E_ok call_25 Tryd.func25 rfl (by simp [Tryd.ntmps25]) ?_; simp only [Tryd.ntmps25, Tryd.results25, push_cast, bne_self_eq_false, simprocAttr])
  (repeat' (first | (refine EOK_run (m := 0) E_ok ?_; simp only [push_cast, bne_self_eq_false, simprocAttr]) | apply Lt.bool | apply Lt.int | apply Lt.t2 | apply Lt.t3 | apply Lt.t4 | apply Lt.aggO | apply FzA.aggO | apply FzA.boolE | apply FzA.intE | apply Lt.str | (with_reducible intro _) | with_reducible apply And.intro | exact trivial)) <;> (first | rfl | omega | contradiction | (simp [*]; done) | (simp_all []; done) | skip)
def ftB (c : Int) (n len : Int) : Bool := if c == 114 then decide (0 ≤ n) && decide (n < 8) else if c == 110 then decide (-9007199254740992 ≤ n) && decide (n ≤ 9007199254740992) else if c == 116 then decide (0 ≤ n) && decide (n ≤ len) else if c == 111 then decide (0 ≤ n) && decide (n ≤ 256) else decide (1 ≤ n) && decide (n ≤ 24)
theorem ec_fits (c n len : Int) : EC Tryd.prog 41 [.int .u8 c, .int .i64 n, .int .i64 len] [] fun r N => N = [] ∧ r = .bool (ftB c n len) := by
  refine EC.finK ?_
  (refine EC.enterK E_ok call_41 Tryd.func41 rfl (by simp [Tryd.ntmps41]) ?_; simp only [Tryd.ntmps41, Tryd.results41, push_cast, bne_self_eq_false, simprocAttr])
  (repeat' (first | (refine EOK_run (m := 0) E_ok ?_; simp only [push_cast, bne_self_eq_false, simprocAttr]) | apply Lt.bool | apply Lt.int | apply Lt.t2 | apply Lt.t3 | apply Lt.t4 | apply Lt.aggO | apply FzA.aggO | apply FzA.boolE | apply FzA.intE | apply Lt.str | (with_reducible intro _) | with_reducible apply And.intro | exact trivial)) <;> (first | rfl | omega | contradiction | (simp [ftB, *]; done) | (simp_all [ftB]; done) | skip)
end Go.Proofs.YtfmldmafigpblaaDoor
