/-
  ReportAdds, for every input that can be read as data: the law returns true, never panics, and its arguments read behind the call as they read before; no further condition.
-/
import Derived.Test.YteejbbfaphcgiaaGreatW00
namespace Go.Proofs.YteejbbfaphcgiaaGreat
open Go.Lift
set_option linter.unusedSimpArgs false
set_option linter.unusedVariables false
open Go.Lift Go.ChangeShapes Go.WideShapes Go.ChangeAt Go.RowKit
set_option maxRecDepth 100000 in
theorem reportAdds_lifted (os:Os) (started:os.Started) (H:Type) (enc:TypeId×Value→H):
  ReturnsInHanded {} Tryz.checked os 4 .any (Rows.reportAddsSpec.pre6 enc Tryz.prog Tryz.f4 Rows.reportAddsRow.domain false) (Rows.reportAddsSpec.post enc Tryz.prog Tryz.f4 false true false false):=by
 refine uW (fun _=>rfl) (C:=Tryz.checked) (tb:=4) (ts:=[22,3]) Tryz.own started (by kernel_rfl) Tryz.func4 Tryz.laidOut (of_decide_eq_true (by kernel_rfl)) (by kernel_rfl) Tryz.underlying4 rfl ?_
  (ChangeSpec.witness6 (enc:=enc) (C:=Tryz.checked) false ⟨#[],#[Go.Value.slice none 0 0,Go.Value.int (Go.IntKind.i64) 0],[]⟩ 8 (by kernel_rfl) (by kernel_rfl) (by kernel_rfl) (by kernel_rfl)) (by kernel_rfl) (RA.cons tv (RA.cons Nz RA.nil)) ?_
 ·intro ds hds
  rw [show Tryz.f4.params.size=2 by kernel_rfl] at hds
  match ds,hds with
  |[d1,d2],_=>rfl
 ·rintro _ ⟨x0,_,h0,⟨x1,_,h1,rfl,rfl⟩,rfl⟩
  exact SR x0 x1 (Nat.le_trans h0.1 (by decide))
theorem tf1:Tryz.prog.inPlace 4=[]:=by kernel_rfl
theorem tf2:Tryz.prog.unfollowed 4=true:=by kernel_rfl
theorem tf3:Tryz.prog.recurses 4=true:=by unfold Program.recurses;rw [tf2];rfl
theorem tf4:Tryz.prog.varsNamed 4=[]:=by kernel_rfl
theorem tf5:Tryz.prog.funcNamed Rows.reportAddsRow.func=some 4:=by kernel_rfl
theorem tf6:joinedFacts Tryz.prog 4 Tryz.f4 Rows.reportAddsSpec Rows.reportAddsRow=true:=by
 unfold joinedFacts
 rw [tf1,tf2,tf3,tf4,Tryz.laidOut]
 kernel_rfl
theorem reportAdds_holds:Rows.ReportAddsSaid:=
 OpenClaim.holds_of_wide 4 Tryz.f4 rfl rfl rfl rfl rfl rfl rfl ⟨rfl,rfl,rfl,rfl,rfl⟩ rfl rfl rfl rfl rfl tf5 Tryz.func4 tf6
  (of_decide_eq_true (by kernel_rfl)) (by unfold Func.isWrapper;first|(rw [if_pos (by decide +kernel)];kernel_rfl)|(rw [if_neg (by decide +kernel)];exact ⟨rfl,rfl⟩))
  (fun os started H enc _=>reportAdds_lifted os started H enc)
end Go.Proofs.YteejbbfaphcgiaaGreat
