/- Address spaces that are made from others. -/
import Derived.Test.YtfmldmafigpblaaDoorSpace
import Derived.Test.YtfmldmafigpblaaDoorLiftZ
namespace Go.Proofs.YtfmldmafigpblaaDoor
open Go.Lift
set_option linter.unusedSimpArgs false
set_option linter.unusedVariables false
set_option maxRecDepth 10000
theorem LFz.rowS {α : Type} {B : List Own} {i e n E : Nat} {h : RowH} {xs : List (List SV)} {cells : α → List SV} {d : α} {l : List α} {r r' : List SV} (hB : getD' B i = .row h E e xs) (hx : xs = l.map cells) (hn : n = l.length) (hr : LFz 0 B r r') :
    LFz 0 B (.row i h e 0 n :: r) (slL e cells d l :: r') := LFz.row hB hx hn hr
def clP (n : Nat) (h : RowH) (i : Nat) : SV := .row i h 2 0 n
attribute [push_cast] clP
theorem ec_clone_PageRefM (l : List GPageRef) (hl : l.length ≤ 1000000) : EC Tryd.prog 31 [slL 2 GPageRef.c default l] [] fun r N => ∃ h : RowH, True ∧ r = clP l.length h 0 ∧ N = [.row h 59 2 (l.map GPageRef.c)] := by
  refine EC.ret (EC.enter E_ok call_31 Tryd.func31 rfl (by simp [Tryd.ntmps31]) ?_)
  simp only [Tryd.ntmps31, Tryd.results31, bindA]
  (repeat (first | (refine EV_seq ?_; intro K hK) | refine EV_block ?_ | ((refine EV_region E_ok ?_; intro R hR fr; simp only [push_cast, bne_self_eq_false, simprocAttr]; (try (simp (disch := omega) only [i64_in', sub_elt, sub_elt0, getD_map2]; (try simp only [push_cast, bne_self_eq_false, simprocAttr])))); (repeat ((with_reducible apply And.intro); focus (first | (intro hA; exact ⟨hA, fun hB => (by rw [hA, hB]; rfl)⟩) | omega | decide | (simp; done) | (simp; omega)))); apply_assumption -exfalso) | refine EV_skip ?_ | refine EV_scope ?_ | refine EV_label ?_ | refine EV_exit ?_ | refine EV_ret ?_ | (simp only [thenP, blockP, scopeP, if_true, reduceIte, reduceCtorEq, if_false, Nat.reduceEqDiff]; apply_assumption -exfalso)))
  (apply EV_cond; exact rfl; all_goals intro h)
  · have e := nil_of h
    subst e
    refine EV_seq ?_
    intro K2 hK2
    ((refine EV_region E_ok ?_; intro R hR fr; simp only [push_cast, bne_self_eq_false, simprocAttr]; (try (simp (disch := omega) only [i64_in', sub_elt, sub_elt0, getD_map2]; (try simp only [push_cast, bne_self_eq_false, simprocAttr])))); (repeat ((with_reducible apply And.intro); focus (first | (intro hA; exact ⟨hA, fun hB => (by rw [hA, hB]; rfl)⟩) | omega | decide | (simp; done) | (simp; omega)))))
    apply_assumption -exfalso
    apply_assumption -exfalso
    refine EV_matr 2 59 2 rfl ?_
    intro hh
    (repeat (first | (refine EV_seq ?_; intro K hK) | refine EV_block ?_ | ((refine EV_region E_ok ?_; intro R hR fr; simp only [push_cast, bne_self_eq_false, simprocAttr]; (try (simp (disch := omega) only [i64_in', sub_elt, sub_elt0, getD_map2]; (try simp only [push_cast, bne_self_eq_false, simprocAttr])))); (repeat ((with_reducible apply And.intro); focus (first | (intro hA; exact ⟨hA, fun hB => (by rw [hA, hB]; rfl)⟩) | omega | decide | (simp; done) | (simp; omega)))); apply_assumption -exfalso) | refine EV_skip ?_ | refine EV_scope ?_ | refine EV_label ?_ | refine EV_exit ?_ | refine EV_ret ?_ | (simp only [thenP, blockP, scopeP, if_true, reduceIte, reduceCtorEq, if_false, Nat.reduceEqDiff]; apply_assumption -exfalso)))
    simp only [push_cast, thenP, blockP, scopeP, retP, evR, evRes, evRes1, Nat.zero_lt_one, Nat.reduceEqDiff, Nat.reduceLT, Nat.reduceAdd, Nat.reduceLeDiff, reduceIte, reduceCtorEq]
    exact ⟨_, SLe.refl _, hh, rfl, rfl⟩
  · (repeat (first | (refine EV_seq ?_; intro K hK) | refine EV_block ?_ | ((refine EV_region E_ok ?_; intro R hR fr; simp only [push_cast, bne_self_eq_false, simprocAttr]; (try (simp (disch := omega) only [i64_in', sub_elt, sub_elt0, getD_map2]; (try simp only [push_cast, bne_self_eq_false, simprocAttr])))); (repeat ((with_reducible apply And.intro); focus (first | (intro hA; exact ⟨hA, fun hB => (by rw [hA, hB]; rfl)⟩) | omega | decide | (simp; done) | (simp; omega)))); apply_assumption -exfalso) | refine EV_skip ?_ | refine EV_scope ?_ | refine EV_label ?_ | refine EV_exit ?_ | refine EV_ret ?_ | (simp only [thenP, blockP, scopeP, if_true, reduceIte, reduceCtorEq, if_false, Nat.reduceEqDiff]; apply_assumption -exfalso)))
    simp only [push_cast, thenP, blockP, scopeP, retP, evR, evRes, evRes1, Nat.zero_lt_one, Nat.reduceEqDiff, Nat.reduceLT, Nat.reduceAdd, Nat.reduceLeDiff, reduceIte, reduceCtorEq]
    exact ⟨_, SLe.refl _, _, rfl, rfl⟩
def shr (id : Int) : GPageRef := ⟨id, true⟩
def spAtt (l : List GPageRef) (ids : List Int) : List GPageRef × Int × Int :=
  if (!spOk l) = true then ([], 0, 1) else if ((ids.length : Int) == 0) = true then ([], 0, 2) else if decide (16 < (l.length : Int) + ids.length) = true then ([], 0, 3)
  else if (!spOk (l ++ ids.map shr)) = true then ([], 0, 1) else (l ++ ids.map shr, (l.length : Int) * 16, 0)
def r3t (x : List GPageRef × Int × Int) : SV := .tup [slL 2 GPageRef.c default x.1, .int .i64 x.2.1, .int .i64 x.2.2]
def spPriv (l : List GPageRef) : List Int := if (!spOk l) = true then [] else (l.filter fun p => !p.Shared).map GPageRef.ID
theorem priv_step {l : List GPageRef} {i : Nat} (h : i < l.length) : ((l.take (i + 1)).filter fun p => !p.Shared).map GPageRef.ID = ((l.take i).filter fun p => !p.Shared).map GPageRef.ID ++ (if (!(l.getD i default).Shared) = true then [(l.getD i default).ID] else []) := by
  rw [List.take_succ_eq_append_getElem h, List.filter_append, List.map_append]
  rw [show l.getD i default = l[i] by simp [List.getD, h]]
  cases hs : l[i].Shared <;> simp [hs]
theorem ec_space_Private (l : List GPageRef) (hl : l.length ≤ 1000000) : EC Tryd.prog 30 [slL 2 GPageRef.c default l] [] fun r B => B = [] ∧ r = slL 1 (intC .u64) default (spPriv l) := by
  refine EC.fin (EC.enter E_ok call_30 Tryd.func30 rfl (by simp [Tryd.ntmps30]) ?_)
  simp only [Tryd.ntmps30, Tryd.results30, bindA]
  (repeat (first | (refine EV_seq ?_; intro K hK) | refine EV_block ?_ | ((refine EV_region E_ok ?_; intro R hR fr; simp only [push_cast, bne_self_eq_false, simprocAttr]; (try (simp (disch := omega) only [i64_in', sub_elt, sub_elt0, getD_map2]; (try simp only [push_cast, bne_self_eq_false, simprocAttr])))); (repeat ((with_reducible apply And.intro); focus (first | (intro hA; exact ⟨hA, fun hB => (by rw [hA, hB]; rfl)⟩) | omega | decide | (simp; done) | (simp; omega)))); apply_assumption -exfalso) | refine EV_skip ?_ | refine EV_scope ?_ | refine EV_label ?_ | refine EV_exit ?_ | refine EV_ret ?_ | (simp only [thenP, blockP, scopeP, if_true, reduceIte, reduceCtorEq, if_false, Nat.reduceEqDiff]; apply_assumption -exfalso)))
  ((refine EV_region E_ok ?_; intro R hR fr; simp only [push_cast, bne_self_eq_false, simprocAttr]; (try (simp (disch := omega) only [i64_in', sub_elt, sub_elt0, getD_map2]; (try simp only [push_cast, bne_self_eq_false, simprocAttr])))); (repeat ((with_reducible apply And.intro); focus (first | (intro hA; exact ⟨hA, fun hB => (by rw [hA, hB]; rfl)⟩) | omega | decide | (simp; done) | (simp; omega)))))
  (refine EC.use (ec_space_Valid l hl) ?_; (try simp only [hg]); refine EO_run E_ok _ 0 _ _ ?_; intro fr; simp only [push_cast, bne_self_eq_false, simprocAttr]; (try (simp (disch := omega) only [i64_in', sub_elt, sub_elt0, getD_map2]; (try simp only [push_cast, bne_self_eq_false, simprocAttr]))); (repeat ((with_reducible apply And.intro); focus (first | (intro hA; exact ⟨hA, fun hB => (by rw [hA, hB]; rfl)⟩) | omega | decide | (simp; done) | (simp; omega)))); (try apply_assumption -exfalso))
  (repeat (first | (refine EV_seq ?_; intro K hK) | refine EV_block ?_ | ((refine EV_region E_ok ?_; intro R hR fr; simp only [push_cast, bne_self_eq_false, simprocAttr]; (try (simp (disch := omega) only [i64_in', sub_elt, sub_elt0, getD_map2]; (try simp only [push_cast, bne_self_eq_false, simprocAttr])))); (repeat ((with_reducible apply And.intro); focus (first | (intro hA; exact ⟨hA, fun hB => (by rw [hA, hB]; rfl)⟩) | omega | decide | (simp; done) | (simp; omega)))); apply_assumption -exfalso) | refine EV_skip ?_ | refine EV_scope ?_ | refine EV_label ?_ | refine EV_exit ?_ | refine EV_ret ?_ | (simp only [thenP, blockP, scopeP, if_true, reduceIte, reduceCtorEq, if_false, Nat.reduceEqDiff]; apply_assumption -exfalso)))
  (apply EV_cond; exact rfl; all_goals intro h)
  · (repeat (first | (refine EV_seq ?_; intro K hK) | refine EV_block ?_ | ((refine EV_region E_ok ?_; intro R hR fr; simp only [push_cast, bne_self_eq_false, simprocAttr]; (try (simp (disch := omega) only [i64_in', sub_elt, sub_elt0, getD_map2]; (try simp only [push_cast, bne_self_eq_false, simprocAttr])))); (repeat ((with_reducible apply And.intro); focus (first | (intro hA; exact ⟨hA, fun hB => (by rw [hA, hB]; rfl)⟩) | omega | decide | (simp; done) | (simp; omega)))); apply_assumption -exfalso) | refine EV_skip ?_ | refine EV_scope ?_ | refine EV_label ?_ | refine EV_exit ?_ | refine EV_ret ?_ | (simp only [thenP, blockP, scopeP, if_true, reduceIte, reduceCtorEq, if_false, Nat.reduceEqDiff]; apply_assumption -exfalso)))
    simp only [push_cast, thenP, blockP, scopeP, retP, evR, evRes, evRes1, Nat.zero_lt_one, Nat.reduceEqDiff, Nat.reduceLT, Nat.reduceAdd, Nat.reduceLeDiff, reduceIte, reduceCtorEq]
    rw [show spPriv l = [] by simp only [spPriv, h, if_true]]
    exact ⟨trivial, sle_nilL⟩
  have h0 := h
  clear h
  (repeat (first | (refine EV_seq ?_; intro K hK) | refine EV_block ?_ | ((refine EV_region E_ok ?_; intro R hR fr; simp only [push_cast, bne_self_eq_false, simprocAttr]; (try (simp (disch := omega) only [i64_in', sub_elt, sub_elt0, getD_map2]; (try simp only [push_cast, bne_self_eq_false, simprocAttr])))); (repeat ((with_reducible apply And.intro); focus (first | (intro hA; exact ⟨hA, fun hB => (by rw [hA, hB]; rfl)⟩) | omega | decide | (simp; done) | (simp; omega)))); apply_assumption -exfalso) | refine EV_skip ?_ | refine EV_scope ?_ | refine EV_label ?_ | refine EV_exit ?_ | refine EV_ret ?_ | (simp only [thenP, blockP, scopeP, if_true, reduceIte, reduceCtorEq, if_false, Nat.reduceEqDiff]; apply_assumption -exfalso)))
  refine EV_matr 3 24 1 rfl ?_
  intro hh
  simp only [List.length_cons, List.length_nil, List.cons_append, List.nil_append, Nat.zero_add]
  refine EV_loopB [0, 9, 10] (fun s : Nat × RowH => [(11, .int .i64 s.1), (3, .row 0 s.2 1 0 (((l.take s.1).filter fun p => !p.Shared).map GPageRef.ID).length)]) (fun B s => updH B 0 s.2 ((((l.take s.1).filter fun p => !p.Shared).map GPageRef.ID).map (intC .u64))) (fun s => s.1 ≤ l.length) (fun s => l.length - s.1) (0, hh) (Nat.zero_le _) ⟨rfl, rfl, trivial⟩ rfl ?_
  rintro ⟨i, hr⟩ hi1
  dsimp only at hi1
  obtain ⟨m, hm⟩ : ∃ m, ((l.take i).filter fun p => !p.Shared).map GPageRef.ID = m := ⟨_, rfl⟩
  have hml : m.length ≤ 1000000 := by
    rw [← hm, List.length_map]
    exact Nat.le_trans (List.length_filter_le _ _) (by simp; omega)
  simp only [updX, updH, setX, keepS, lkp, Nat.reduceEqDiff, if_true, if_false, reduceIte, List.cons_append, List.nil_append, List.take_succ_cons, List.take_zero, List.append_nil]
  simp only [hm]
  (repeat (first | (refine EV_seq ?_; intro K hK) | refine EV_block ?_ | ((refine EV_region E_ok ?_; intro R hR fr; simp only [push_cast, bne_self_eq_false, simprocAttr]; (try (simp (disch := omega) only [i64_in', sub_elt, sub_elt0, getD_map2]; (try simp only [push_cast, bne_self_eq_false, simprocAttr])))); (repeat ((with_reducible apply And.intro); focus (first | (intro hA; exact ⟨hA, fun hB => (by rw [hA, hB]; rfl)⟩) | omega | decide | (simp; done) | (simp; omega)))); apply_assumption -exfalso) | refine EV_skip ?_ | refine EV_scope ?_ | refine EV_label ?_ | refine EV_exit ?_ | refine EV_ret ?_ | (simp only [thenP, blockP, scopeP, if_true, reduceIte, reduceCtorEq, if_false, Nat.reduceEqDiff]; apply_assumption -exfalso)))
  (apply EV_cond; exact rfl; all_goals intro h)
  · have hlt : i < l.length := by simp at h; omega
    clear h
    have hs := priv_step hlt
    rw [hm] at hs
    (repeat (first | (refine EV_seq ?_; intro K hK) | refine EV_block ?_ | ((refine EV_region E_ok ?_; intro R hR fr; simp only [push_cast, bne_self_eq_false, simprocAttr]; (try (simp (disch := omega) only [i64_in', sub_elt, sub_elt0, getD_map2]; (try simp only [push_cast, bne_self_eq_false, simprocAttr])))); (repeat ((with_reducible apply And.intro); focus (first | (intro hA; exact ⟨hA, fun hB => (by rw [hA, hB]; rfl)⟩) | omega | decide | (simp; done) | (simp; omega)))); apply_assumption -exfalso) | refine EV_skip ?_ | refine EV_scope ?_ | refine EV_label ?_ | refine EV_exit ?_ | refine EV_ret ?_ | (simp only [thenP, blockP, scopeP, if_true, reduceIte, reduceCtorEq, if_false, Nat.reduceEqDiff]; apply_assumption -exfalso)))
    (apply EV_cond; exact rfl; all_goals intro h)
    · rw [if_pos h] at hs
      have e2 : m.length + 1 = (((l.take (i + 1)).filter fun p => !p.Shared).map GPageRef.ID).length := by rw [hs]; simp
      (repeat (first | (refine EV_seq ?_; intro K hK) | refine EV_block ?_ | ((refine EV_region E_ok ?_; intro R hR fr; simp only [push_cast, bne_self_eq_false, simprocAttr]; (try (simp (disch := omega) only [i64_in', sub_elt, sub_elt0, getD_map2]; (try simp only [push_cast, bne_self_eq_false, simprocAttr])))); (repeat ((with_reducible apply And.intro); focus (first | (intro hA; exact ⟨hA, fun hB => (by rw [hA, hB]; rfl)⟩) | omega | decide | (simp; done) | (simp; omega)))); apply_assumption -exfalso) | refine EV_skip ?_ | refine EV_scope ?_ | refine EV_label ?_ | refine EV_exit ?_ | refine EV_ret ?_ | (simp only [thenP, blockP, scopeP, if_true, reduceIte, reduceCtorEq, if_false, Nat.reduceEqDiff]; apply_assumption -exfalso)))
      rw [← hs, e2]
      (simp only [thenP, blockP, scopeP, if_true, reduceIte, reduceCtorEq, if_false]; apply Exists.intro ((i + 1, _)); refine ⟨?_, ?_, (by repeat (first | exact trivial | refine And.intro (by first | rfl | (simp only [lkp, push_cast]; done) | (simp [lkp]; done)) ?_)), (by first | rfl | (simp only [push_cast, List.take_length, List.take_append_of_le_length, bne_self_eq_false, simprocAttr]; done) | (simp [updX, updH, setX]; done))⟩)
      · dsimp only; omega
      · dsimp only; omega
    · rw [if_neg (by rw [h]; simp), List.append_nil] at hs
      rw [← hs]
      (repeat (first | (refine EV_seq ?_; intro K hK) | refine EV_block ?_ | ((refine EV_region E_ok ?_; intro R hR fr; simp only [push_cast, bne_self_eq_false, simprocAttr]; (try (simp (disch := omega) only [i64_in', sub_elt, sub_elt0, getD_map2]; (try simp only [push_cast, bne_self_eq_false, simprocAttr])))); (repeat ((with_reducible apply And.intro); focus (first | (intro hA; exact ⟨hA, fun hB => (by rw [hA, hB]; rfl)⟩) | omega | decide | (simp; done) | (simp; omega)))); apply_assumption -exfalso) | refine EV_skip ?_ | refine EV_scope ?_ | refine EV_label ?_ | refine EV_exit ?_ | refine EV_ret ?_ | (simp only [thenP, blockP, scopeP, if_true, reduceIte, reduceCtorEq, if_false, Nat.reduceEqDiff]; apply_assumption -exfalso)))
      (simp only [thenP, blockP, scopeP, if_true, reduceIte, reduceCtorEq, if_false]; apply Exists.intro ((i + 1, hr)); refine ⟨?_, ?_, (by repeat (first | exact trivial | refine And.intro (by first | rfl | (simp only [lkp, push_cast]; done) | (simp [lkp]; done)) ?_)), (by first | rfl | (simp only [push_cast, List.take_length, List.take_append_of_le_length, bne_self_eq_false, simprocAttr]; done) | (simp [updX, updH, setX]; done))⟩)
      · dsimp only; omega
      · dsimp only; omega
  · have e : i = l.length := by simp at h; omega
    clear h
    rw [e, List.take_length] at hm
    (repeat (first | (refine EV_seq ?_; intro K hK) | refine EV_block ?_ | ((refine EV_region E_ok ?_; intro R hR fr; simp only [push_cast, bne_self_eq_false, simprocAttr]; (try (simp (disch := omega) only [i64_in', sub_elt, sub_elt0, getD_map2]; (try simp only [push_cast, bne_self_eq_false, simprocAttr])))); (repeat ((with_reducible apply And.intro); focus (first | (intro hA; exact ⟨hA, fun hB => (by rw [hA, hB]; rfl)⟩) | omega | decide | (simp; done) | (simp; omega)))); apply_assumption -exfalso) | refine EV_skip ?_ | refine EV_scope ?_ | refine EV_label ?_ | refine EV_exit ?_ | refine EV_ret ?_ | (simp only [thenP, blockP, scopeP, if_true, reduceIte, reduceCtorEq, if_false, Nat.reduceEqDiff]; apply_assumption -exfalso)))
    simp only [push_cast, thenP, blockP, scopeP, retP, evR, evRes, evRes1, Nat.zero_lt_one, Nat.reduceEqDiff, Nat.reduceLT, Nat.reduceAdd, Nat.reduceLeDiff, reduceIte, reduceCtorEq]
    rw [show spPriv l = m by simp only [spPriv, h0, if_false, Bool.false_eq_true, hm]]
    exact fin_rowT (cells := intC .u64) (d := default) rfl rfl rfl
end Go.Proofs.YtfmldmafigpblaaDoor
