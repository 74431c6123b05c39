-- SG
/- Copies whose children may be written; children that are deleted. -/
import Derived.Test.YtfmldmafigpblaaDoorProcB
import Derived.Test.YtfmldmafigpblaaDoorSpaceC
namespace Go.Proofs.YtfmldmafigpblaaDoor
open Go.Lift
set_option linter.unusedSimpArgs false
set_option linter.unusedVariables false
set_option maxRecDepth 10000
theorem E2_ok : EnvOK Tryd.prog (envK E) := envK_ok E_ok
def u64S (n : Nat) (h : RowH) (i : Nat) : SV := .row i h 1 0 n
attribute [push_cast] u64S
theorem ec_clone_u64M (l : List Int) (hl : l.length ≤ 1000000) : EC Tryd.prog 45 [slL 1 (intC .u64) default l] [] fun r N => ∃ h : RowH, r = u64S l.length h 0 ∧ N = [.row h 24 1 (l.map (intC .u64))] := by
  refine EC.matr 24 1 (EC.ret ?_)
  (refine EC.enterK E_ok call_45 Tryd.func45 rfl (by simp [Tryd.ntmps45]) ?_; simp only [Tryd.ntmps45, Tryd.results45, push_cast, bne_self_eq_false, simprocAttr])
  refine fun fr => ⟨fun h => ?_, fun h fr1 => ⟨by omega, _, SLe.refl _, .inl ⟨_, rfl, rfl⟩⟩⟩
  rw [nil_of h]
  exact ⟨_, SLe.refl _, .inr ⟨_, rfl, fun hh => ⟨hh, rfl, rfl⟩⟩⟩
theorem ec_clone_NameF (l : List GName) (hl : l.length ≤ 1000000) : EC Tryd.prog 46 [slL 3 GName.c default l] [] fun r N => N = [] ∧ r = slL 3 GName.c default l := by
  refine EC.finK ?_
  (refine EC.enterK E_ok call_46 Tryd.func46 rfl (by simp [Tryd.ntmps46]) ?_; simp only [Tryd.ntmps46, Tryd.results46, push_cast, bne_self_eq_false, simprocAttr])
  intro fr
  refine ⟨fun h => ?_, fun h _ => ⟨by omega, Lt.row rfl rfl rfl⟩⟩
  rw [nil_of h]
  exact ⟨trivial, sle_nilL⟩
def chS (p : GProcess) (h : RowH) (i : Nat) : SV := .agg (putL p.c 2 [.row i h 1 0 p.Children.length])
theorem chS_le (p : GProcess) (h : RowH) (i j : Nat) : SLe (chS p h i) (chS p h j) := SLe.agg (LLe.put (LLe.refl _) 2 SLe.row rfl)
set_option maxHeartbeats 1000000 in
theorem ec_clone_ProcessM (p : GProcess) (hp : smallP p) : EC Tryd.prog 42 [.agg p.c] [] fun r N => ∃ h, r = chS p h 0 ∧ N = [.row h 24 1 (p.Children.map (intC .u64))] := by
  obtain ⟨h1, h2, h3, h4, h5⟩ := hp
  refine EC_pick 2 ?_
  (refine EC.enterK E_ok call_42 Tryd.func42 rfl (by simp [Tryd.ntmps42]) ?_; simp only [Tryd.ntmps42, Tryd.results42, push_cast, bne_self_eq_false, simprocAttr])
  intro fr
  (refine EV_drawn E_ok [10, 12, 14] [false, false] [0, 1, 3, 4, 6, 7, 2, 9, 5, 8, 10, 11, 12, 13, 14] Tryd.follows (by kernel_rfl) (by kernel_rfl) (by kernel_rfl) ?_; intro R hR; simp only [push_cast, bne_self_eq_false, simprocAttr]; (repeat intro rh); (try (simp (disch := omega) only [i64_in', sub_elt, sub_elt0, getD_map2]; (try simp only [push_cast, bne_self_eq_false, simprocAttr]))); (repeat ((with_reducible apply And.intro); focus (first | (intro hA; exact ⟨hA, fun hB => (by first | (rw [hA, hB]; rfl) | simp_all)⟩) | omega | decide | (simp; done) | (simp; omega) | (intro hA; (repeat' apply And.intro) <;> first | exact hA | omega)))); (repeat intro rh); (repeat ((with_reducible apply And.intro); focus (first | (intro hA; exact ⟨hA, fun hB => (by first | (rw [hA, hB]; rfl) | simp_all)⟩) | omega | decide | (simp; done) | (simp; omega) | (intro hA; (repeat' apply And.intro) <;> first | exact hA | omega)))); (try apply_assumption -exfalso))
  (refine EC.useM (ec_clone_u64M p.Children h1) (fun _ _ _ => by first | exact SLe.rptr | exact SLe.row) ?_; intro rh; (try simp only [hg]); refine ED_run E_ok (by kernel_rfl) false [9, 5, 8, 10, 11, 12, 13, 14] _ _ _ (by kernel_rfl) (by kernel_rfl) ?_; simp only [push_cast, bne_self_eq_false, simprocAttr]; (repeat intro rh); (try (simp (disch := omega) only [i64_in', sub_elt, sub_elt0, getD_map2]; (try simp only [push_cast, bne_self_eq_false, simprocAttr]))); (repeat ((with_reducible apply And.intro); focus (first | (intro hA; exact ⟨hA, fun hB => (by first | (rw [hA, hB]; rfl) | simp_all)⟩) | omega | decide | (simp; done) | (simp; omega) | (intro hA; (repeat' apply And.intro) <;> first | exact hA | omega)))); (try apply_assumption -exfalso))
  (refine EC.use (ec_clone_PageRef p.Pages h4) ?_; (try simp only [hg]); refine ED_run E_ok (by kernel_rfl) false [8, 10, 11, 12, 13, 14] _ _ _ (by kernel_rfl) (by kernel_rfl) ?_; simp only [push_cast, bne_self_eq_false, simprocAttr]; (repeat intro rh); (try (simp (disch := omega) only [i64_in', sub_elt, sub_elt0, getD_map2]; (try simp only [push_cast, bne_self_eq_false, simprocAttr]))); (repeat ((with_reducible apply And.intro); focus (first | (intro hA; exact ⟨hA, fun hB => (by first | (rw [hA, hB]; rfl) | simp_all)⟩) | omega | decide | (simp; done) | (simp; omega) | (intro hA; (repeat' apply And.intro) <;> first | exact hA | omega)))); (try apply_assumption -exfalso))
  (refine EC.use (ec_clone_Slot p.Table h5) ?_; (try simp only [hg]); refine ED_run E_ok (by kernel_rfl) false [10, 11, 12, 13, 14] _ _ _ (by kernel_rfl) (by kernel_rfl) ?_; simp only [push_cast, bne_self_eq_false, simprocAttr]; (repeat intro rh); (try (simp (disch := omega) only [i64_in', sub_elt, sub_elt0, getD_map2]; (try simp only [push_cast, bne_self_eq_false, simprocAttr]))); (repeat ((with_reducible apply And.intro); focus (first | (intro hA; exact ⟨hA, fun hB => (by first | (rw [hA, hB]; rfl) | simp_all)⟩) | omega | decide | (simp; done) | (simp; omega) | (intro hA; (repeat' apply And.intro) <;> first | exact hA | omega)))); (try apply_assumption -exfalso))
  simp only [push_cast, bne_self_eq_false, simprocAttr]
  (refine EC.useK E_ok (ec_clone_Program p.Program h2 h3) ?_; simp only [push_cast, bne_self_eq_false, simprocAttr])
  have e1 : putL (putL (putL (putL p.c 2 [SV.row 2 rh 1 0 p.Children.length]) 15 [SV.sl false 2 p.Pages.length (elt GPageRef.c default p.Pages)]) 16 [SV.sl false 4 p.Table.length (elt GSlot.c default p.Table)]) 3 p.Program.c = putL p.c 2 [SV.row 2 rh 1 0 p.Children.length] := by kernel_rfl
  have e2 : List.take 20 (putL p.c 2 [SV.row 2 rh 1 0 p.Children.length]) = putL p.c 2 [SV.row 2 rh 1 0 p.Children.length] := by kernel_rfl
  have e3 : putL (GProcess.c default) 0 (putL p.c 2 [SV.row 2 rh 1 0 p.Children.length]) = putL p.c 2 [SV.row 2 rh 1 0 p.Children.length] := by kernel_rfl
  have e4 : solids (putL p.c 2 [SV.row 2 rh 1 0 p.Children.length]) = true := by kernel_rfl
  have e5 : (putL p.c 2 [SV.row 2 rh 1 0 p.Children.length]).length = 20 := by kernel_rfl
  simp only [e1, e2, e3, e4, e5]
  exact ⟨⟨trivial, trivial⟩, _, chS_le p rh 2 0, rh, rfl, rfl⟩
theorem useAtD {P : Program} {f : Nat} {args args' : List SV} {B : List Own} (i : Nat) {h : RowH} {E e m : Nat} {xs xs' : List (List SV)} {Q : SV → List Own → Prop}
    (hc : EC P f args [.row h E e xs] fun r N => ∃ h', r = .row 0 h' e 0 m ∧ N = [.row h' E e xs']) (hi : getD' B i = .row h E e xs) (ha : LLe args' args) (hk : ∀ h', Q (.row i h' e 0 m) (B.set i (.row h' E e xs'))) : EC P f args' B Q :=
  EC.ret ((EC.at hc hi ha (by rintro r N ⟨h', _, rfl⟩; exact ⟨_, rfl⟩)).mono (by rintro r B' ⟨o, ⟨h', rfl, ho⟩, rfl⟩; cases ho; exact ⟨_, SLe.row, hk h'⟩))
theorem del_row {l : List Int} {i : Nat} (hi : i < l.length) : List.take i (List.map (intC .u64) l) ++ List.take (l.length - (i + 1)) (List.drop (i + 1) (List.map (intC .u64) l)) ++ List.drop (l.length - 1) (List.map (intC .u64) l) = (l.eraseIdx i ++ l.drop (l.length - 1)).map (intC .u64) := by
  have e : List.take (l.length - (i + 1)) (List.map (intC .u64) (l.drop (i + 1))) = List.map (intC .u64) (l.drop (i + 1)) := List.take_of_length_le (by simp)
  rw [List.eraseIdx_eq_take_drop_succ, ← List.map_drop, e]
  simp
theorem ec_delete (h : RowH) (l : List Int) (i : Nat) (hi : i < l.length) (hl : l.length ≤ 1000000) :
    EC Tryd.prog 18 [.row 0 h 1 0 l.length, .int .i64 i, .int .i64 ((i : Int) + 1)] [.row h 24 1 (l.map (intC .u64))] fun r N => ∃ h', r = .row 0 h' 1 0 (l.length - 1) ∧ N = [.row h' 24 1 ((l.eraseIdx i ++ [0]).map (intC .u64))] := by
  refine EC.ret ?_
  (refine EC.enterK E2_ok call_18 Tryd.func18 rfl (by simp [Tryd.ntmps18]) ?_; simp only [Tryd.ntmps18, Tryd.results18, push_cast, bne_self_eq_false, simprocAttr])
  refine ⟨by omega, fun e => absurd e (by simp; omega), fun _ => ?_⟩
  (refine EV_drawn E2_ok [] [true] [0, 1, 2, 3, 4, 5, 6, 7] Tryd.follows (by kernel_rfl) (by kernel_rfl) (by kernel_rfl) ?_; intro R hR; simp only [push_cast, bne_self_eq_false, simprocAttr]; (repeat intro rh); (try (simp (disch := omega) only [i64_in', sub_elt, sub_elt0, getD_map2]; (try simp only [push_cast, bne_self_eq_false, simprocAttr]))); (repeat ((with_reducible apply And.intro); focus (first | (intro hA; exact ⟨hA, fun hB => (by first | (rw [hA, hB]; rfl) | simp_all)⟩) | omega | decide | (simp; done) | (simp; omega) | (intro hA; (repeat' apply And.intro) <;> first | exact hA | omega)))); (repeat intro rh); (repeat ((with_reducible apply And.intro); focus (first | (intro hA; exact ⟨hA, fun hB => (by first | (rw [hA, hB]; rfl) | simp_all)⟩) | omega | decide | (simp; done) | (simp; omega) | (intro hA; (repeat' apply And.intro) <;> first | exact hA | omega)))); (try apply_assumption -exfalso))
  have e0 : ((i : Int) + 1).toNat = i + 1 := by omega
  have e1 : (List.take (l.length - (i + 1)) (List.drop (i + 1) (List.map (intC .u64) l))).length = l.length - (i + 1) := by simp
  have e2 : i + (l.length - (i + 1)) = l.length - 1 := by omega
  have e3 : (l.eraseIdx i).length = l.length - 1 := by rw [List.length_eraseIdx, if_pos hi]
  simp only [e0, e1, e2, del_row hi]
  refine ⟨⟨by omega, ⟨by omega, fun x hx => ?_⟩, by omega⟩, hR _ _ ?_⟩
  · obtain ⟨y, _, rfl⟩ := List.mem_map.1 hx
    rfl
  clear hR R
  have e4 : ((l.length - 1 : Nat) : Int).toNat = l.length - 1 := by omega
  simp only [e0, e1, e2, e4, push_cast, bne_self_eq_false, simprocAttr]
  have e5 : l.length - (l.length - 1) = 1 := by omega
  have e6 : l.length - 1 + 1 = l.length := by omega
  refine ⟨⟨by omega, by omega, by omega, .inr (by omega)⟩, by omega, _, SLe.refl _, _, rfl, ?_⟩
  rw [e5, e6, ← List.map_take, List.take_left' e3, List.drop_of_length_le (by simp [e3])]
  simp [intC]
end Go.Proofs.YtfmldmafigpblaaDoor
