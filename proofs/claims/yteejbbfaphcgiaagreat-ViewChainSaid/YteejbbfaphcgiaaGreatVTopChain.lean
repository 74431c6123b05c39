/-
  ViewChain, for every input that can be read as data: the law returns true, never panics, and its arguments read behind the call as they read before; no further condition.
-/
import Derived.Test.YteejbbfaphcgiaaGreatV04
import Derived.Test.YteejbbfaphcgiaaGreatV12
namespace Go.Proofs.YteejbbfaphcgiaaGreat
open Go.Lift
set_option linter.unusedSimpArgs false
set_option linter.unusedVariables false
open Go.Lift Go.ChangeShapes Go.WideShapes Go.ChangeAt Go.RowKit
set_option maxRecDepth 100000 in
theorem viewChain_lifted (os:Os) (started:os.Started) (H:Type) (enc:TypeId×Value→H):
  ReturnsInHanded {} Tryz.checked os 8 .any (Rows.viewChainSpec.pre6 enc Tryz.prog Tryz.f8 Rows.viewChainRow.domain false) (Rows.viewChainSpec.post enc Tryz.prog Tryz.f8 false true false false):=by
 refine uW (fun _=>rfl) (C:=Tryz.checked) (tb:=4) (ts:=[22,22]) Tryz.own started (by kernel_rfl) Tryz.func8 Tryz.laidOut (of_decide_eq_true (by kernel_rfl)) (by kernel_rfl) Tryz.underlying4 rfl ?_
  (ChangeSpec.witness6 (enc:=enc) (C:=Tryz.checked) false ⟨#[],#[Go.Value.slice none 0 0,Go.Value.slice none 0 0],[]⟩ 8 (by kernel_rfl) (by kernel_rfl) (by kernel_rfl) (by kernel_rfl)) (by kernel_rfl) (RA.cons tv (RA.cons tv RA.nil)) ?_
 ·intro ds hds
  rw [show Tryz.f8.params.size=2 by kernel_rfl] at hds
  match ds,hds with
  |[d1,d2],_=>rfl
 ·rintro _ ⟨x0,_,h0,⟨x1,_,h1,rfl,rfl⟩,rfl⟩
  exact qQ x0 x1 (Nat.le_trans h0.1 (by decide)) (Nat.le_trans h1.1 (by decide))
theorem viewChain_f1:Tryz.prog.inPlace 8=[]:=by kernel_rfl
theorem viewChain_f2:Tryz.prog.unfollowed 8=true:=by kernel_rfl
theorem viewChain_f3:Tryz.prog.recurses 8=true:=by unfold Program.recurses;rw [viewChain_f2];rfl
theorem viewChain_f4:Tryz.prog.varsNamed 8=[]:=by kernel_rfl
theorem viewChain_f5:Tryz.prog.funcNamed Rows.viewChainRow.func=some 8:=by kernel_rfl
theorem viewChain_f6:joinedFacts Tryz.prog 8 Tryz.f8 Rows.viewChainSpec Rows.viewChainRow=true:=by
 unfold joinedFacts
 rw [viewChain_f1,viewChain_f2,viewChain_f3,viewChain_f4,Tryz.laidOut]
 kernel_rfl
theorem viewChain_holds:Rows.ViewChainSaid:=
 OpenClaim.holds_of_wide 8 Tryz.f8 rfl rfl rfl rfl rfl rfl rfl ⟨rfl,rfl,rfl,rfl,rfl⟩ rfl rfl rfl rfl rfl viewChain_f5 Tryz.func8 viewChain_f6
  (of_decide_eq_true (by kernel_rfl)) (by unfold Func.isWrapper;first|(rw [if_pos (by decide +kernel)];kernel_rfl)|(rw [if_neg (by decide +kernel)];exact ⟨rfl,rfl⟩))
  (fun os started H enc _=>viewChain_lifted os started H enc)
end Go.Proofs.YteejbbfaphcgiaaGreat
