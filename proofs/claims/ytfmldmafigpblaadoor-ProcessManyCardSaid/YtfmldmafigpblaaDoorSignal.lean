/- Signals: the program and the reference. -/
import Derived.Test.YtfmldmafigpblaaDoorClone
namespace Go.Proofs.YtfmldmafigpblaaDoor
open Go.Lift
set_option linter.unusedSimpArgs false
set_option linter.unusedVariables false
set_option maxRecDepth 10000
def shl1 (s : Int) : Int := IntKind.i64.wrap (1 * 2 ^ (min s.toNat 64))
def sigRaise (p : GProcess) (s : Int) : GProcess × Int :=
  if (decide (s < 1) || decide (31 < s)) = true then (default, 2) else if (!(p.State == 1) && !(p.State == 2)) = true then (default, 6) else
  if (!(s == 9)) = true then ({ p with Pending := bitI .or .i64 p.Pending (shl1 s) }, 0) else if (p.State == 1) = true then ({ p with State := 2, Status := -9 }, 0) else (p, 0)
def r2p (x : GProcess × Int) : SV := .tup [.agg x.1.c, .int .i64 x.2]
def rp2 (x : Int × GProcess) : SV := .tup [.int .i64 x.1, .agg x.2.c]
theorem sigRaise_small {p : GProcess} {s : Int} (hp : smallP p) : smallP (sigRaise p s).1 := by
  have hd : smallP (default : GProcess) := by refine ⟨?_, ?_, ?_, ?_, ?_⟩ <;> decide
  unfold sigRaise
  split
  · exact hd
  split
  · exact hd
  split
  · exact hp
  split
  · exact hp
  · exact hp
def sigOk (x : Int) : Bool := bitI .andNot .i64 x 4294966782 == 0
theorem ec_signal_Valid (x : Int) : EC Tryd.prog 24 [.int .i64 x] [] fun r B => B = [] ∧ r = .bool (sigOk x) := by
  refine EC.fin (EC.enter E_ok call_24 Tryd.func24 rfl (by simp [Tryd.ntmps24]) ?_)
  simp only [Tryd.ntmps24, Tryd.results24, bindA]
  (repeat (first | (refine EV_seq ?_; intro K hK) | refine EV_block ?_ | ((refine EV_region E_ok ?_; intro R hR fr; simp only [push_cast, bne_self_eq_false, simprocAttr]; (try (simp (disch := omega) only [i64_in', sub_elt, sub_elt0, getD_map2]; (try simp only [push_cast, bne_self_eq_false, simprocAttr])))); (repeat ((with_reducible apply And.intro); focus (first | (intro hA; exact ⟨hA, fun hB => (by rw [hA, hB]; rfl)⟩) | omega | decide | (simp; done) | (simp; omega)))); apply_assumption -exfalso) | refine EV_skip ?_ | refine EV_scope ?_ | refine EV_label ?_ | refine EV_exit ?_ | refine EV_ret ?_ | (simp only [thenP, blockP, scopeP, if_true, reduceIte, reduceCtorEq, if_false, Nat.reduceEqDiff]; apply_assumption -exfalso)))
  (simp only [push_cast, thenP, blockP, scopeP, retP, evR, evRes, evRes1, Nat.zero_lt_one, Nat.reduceEqDiff, Nat.reduceLT, Nat.reduceAdd, Nat.reduceLeDiff, reduceIte, reduceCtorEq]; simp only [frzKT, frzKLA, frzKA, frzKL, frzKC, frzT, frzLA, frzA, frzL, frzC, fromM, getD', List.getD_cons_zero, List.getD_cons_succ, Nat.zero_le, decide_true, and_true, true_and, and_self, push_cast]; refine SLe.of_eq ?_; rfl)
def sigOk' (x : Int) : Bool := decide (0 ≤ x) && decide (x < 4294967296) && bitI .and .i64 x 1 == 0 && bitI .and .i64 (x.fdiv 512) 1 == 0
end Go.Proofs.YtfmldmafigpblaaDoor
