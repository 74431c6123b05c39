/-
  ViewChecks, for every input that can be read as data: the law returns true, never panics, and its arguments read behind the call as they read before; no further condition.
-/
import Derived.Test.YteejbbfaphcgiaaGreatY00
namespace Go.Proofs.YteejbbfaphcgiaaGreat
open Go.Lift
set_option linter.unusedSimpArgs false
set_option linter.unusedVariables false
open Go.Lift Go.ChangeShapes Go.WideShapes Go.ChangeAt Go.RowKit
set_option maxRecDepth 100000 in
theorem viewChecks_lifted (os:Os) (started:os.Started) (H:Type) (enc:TypeId×Value→H):
  ReturnsInHanded {} Tryz.checked os 6 .any (Rows.viewChecksSpec.pre6 enc Tryz.prog Tryz.f6 Rows.viewChecksRow.domain false) (Rows.viewChecksSpec.post enc Tryz.prog Tryz.f6 false true false false):=by
 refine uW (fun _=>rfl) (C:=Tryz.checked) (tb:=4) (ts:=[22,22,22,22,3,3]) Tryz.own started (by kernel_rfl) Tryz.func6 Tryz.laidOut (of_decide_eq_true (by kernel_rfl)) (by kernel_rfl) Tryz.underlying4 rfl ?_
  (ChangeSpec.witness6 (enc:=enc) (C:=Tryz.checked) false ⟨#[],#[Go.Value.slice none 0 0,Go.Value.slice none 0 0,Go.Value.slice none 0 0,Go.Value.slice none 0 0,Go.Value.int (Go.IntKind.i64) 0,Go.Value.int (Go.IntKind.i64) 0],[]⟩ 8 (by kernel_rfl) (by kernel_rfl) (by kernel_rfl) (by kernel_rfl)) (by kernel_rfl) (RA.cons tv (RA.cons tv (RA.cons tv (RA.cons tv (RA.cons Nz (RA.cons Nz RA.nil)))))) ?_
 ·intro ds hds
  rw [show Tryz.f6.params.size=6 by kernel_rfl] at hds
  match ds,hds with
  |[d1,d2,d3,d4,d5,d6],_=>rfl
 ·rintro _ ⟨x0,_,h0,⟨x1,_,h1,⟨x2,_,h2,⟨x3,_,h3,⟨x4,_,h4,⟨x5,_,h5,rfl,rfl⟩,rfl⟩,rfl⟩,rfl⟩,rfl⟩,rfl⟩
  exact pW x0 x1 x2 x3 x4 x5 (Nat.le_trans h0.1 (by decide)) (Nat.le_trans h1.1 (by decide))
theorem viewChecks_f1:Tryz.prog.inPlace 6=[]:=by kernel_rfl
theorem viewChecks_f2:Tryz.prog.unfollowed 6=true:=by kernel_rfl
theorem viewChecks_f3:Tryz.prog.recurses 6=true:=by unfold Program.recurses;rw [viewChecks_f2];rfl
theorem viewChecks_f4:Tryz.prog.varsNamed 6=[]:=by kernel_rfl
theorem viewChecks_f5:Tryz.prog.funcNamed Rows.viewChecksRow.func=some 6:=by kernel_rfl
theorem viewChecks_f6:joinedFacts Tryz.prog 6 Tryz.f6 Rows.viewChecksSpec Rows.viewChecksRow=true:=by
 unfold joinedFacts
 rw [viewChecks_f1,viewChecks_f2,viewChecks_f3,viewChecks_f4,Tryz.laidOut]
 kernel_rfl
theorem viewChecks_holds:Rows.ViewChecksSaid:=
 OpenClaim.holds_of_wide 6 Tryz.f6 rfl rfl rfl rfl rfl rfl rfl ⟨rfl,rfl,rfl,rfl,rfl⟩ rfl rfl rfl rfl rfl viewChecks_f5 Tryz.func6 viewChecks_f6
  (of_decide_eq_true (by kernel_rfl)) (by unfold Func.isWrapper;first|(rw [if_pos (by decide +kernel)];kernel_rfl)|(rw [if_neg (by decide +kernel)];exact ⟨rfl,rfl⟩))
  (fun os started H enc _=>viewChecks_lifted os started H enc)
end Go.Proofs.YteejbbfaphcgiaaGreat
