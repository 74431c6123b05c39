-- SG
/- Addresses: deletion and notes. -/
import Derived.Test.YtnnabccfagojhaaLoc
namespace Go.Proofs.Ytnnabccfagojhaa
open Go.Lift
set_option linter.unusedSimpArgs false
set_option linter.unusedVariables false
set_option maxRecDepth 10000
/-- A call that leaves its caller's rows as they are, but for what is said. -/
theorem EC.self {P : Program} {f : Nat} {args : List SV} {B B2 : List Own} {R : SV} {Q : SV → List Own → Prop} (hc : EC P f args B fun r N => r = R ∧ N = B2) (hk : Q R B2) : EC P f args B Q := hc.mono (by rintro r N ⟨rfl, rfl⟩; exact hk)
def keepA (p : GAddress → Bool) (l : List GAddress) : List GAddress := l.filter fun a => !p a
theorem keep_step {p : GAddress → Bool} {l : List GAddress} {j : Nat} (h : j < l.length) : keepA p (l.take (j + 1)) = keepA p (l.take j) ++ (if p (l.getD j default) = true then [] else [l.getD j default]) := by
  rw [keepA, List.take_succ_eq_append_getElem h, List.filter_append]
  have : l.getD j default = l[j] := by simp [List.getD, h]
  rw [this, keepA]
  cases hp : p l[j] <;> simp [hp]
theorem keep_le (p : GAddress → Bool) (l : List GAddress) : (keepA p l).length ≤ l.length := List.length_filter_le _ _
theorem keep_all {p : GAddress → Bool} {l : List GAddress} (h : idxP p 0 l = -1) : keepA p l = l := by
  rw [idxP_find] at h
  split at h
  · omega
  · rename_i hn
    rw [keepA, List.filter_eq_self]
    intro a ha
    have hfi : l.findIdx p = l.length := by have := List.findIdx_le_length (p := p) (xs := l); omega
    have := List.findIdx_eq_length.1 hfi a ha
    simpa using this
theorem keep_first {p : GAddress → Bool} {l : List GAddress} {i : Nat} (h : idxP p 0 l = (i : Int)) : i < l.length ∧ p (l.getD i default) = true ∧ keepA p (l.take i) = l.take i := by
  rw [idxP_find, Nat.zero_add] at h
  split at h
  · rename_i hn
    have hi : l.findIdx p = i := by omega
    subst hi
    refine ⟨hn, ?_, ?_⟩
    · have := List.findIdx_getElem (w := hn)
      rw [show l.getD (l.findIdx p) default = l[l.findIdx p] by simp [List.getD, hn]]
      exact this
    · rw [keepA, List.filter_eq_self]
      intro a ha
      obtain ⟨k, hk, rfl⟩ := List.mem_take_iff_getElem.1 ha
      have := List.not_of_lt_findIdx (show k < l.findIdx p by omega)
      simpa using this
  · omega
theorem atP {pre m : List GAddress} {j : Nat} : (pre ++ m).getD (pre.length + j) default = m.getD j default := by
  simp only [List.getD]; rw [List.getElem?_append_right (by omega), Nat.add_sub_cancel_left]
theorem setP {pre m : List GAddress} {j : Nat} {v : GAddress} : ((pre ++ m).map GAddress.c).set (pre.length + j) v.c = (pre ++ m.set j v).map GAddress.c := by
  rw [← List.map_set, List.set_append_right _ _ (by omega), Nat.add_sub_cancel_left]
theorem ec_delete_AD {g : FuncId} {h1 h2 h3 : RowH} {E1 E2 : Nat} {c1 c2 : List SV} {p : GAddress → Bool} (pre l : List GAddress) (hl : pre.length + l.length ≤ 1000000)
    (hg : ∀ q : GAddress, EC Try.prog g [.agg q.c, .xp c1, .xp c2] [] fun r N => N = [] ∧ r = .bool (p q)) :
    EC Try.prog 55 [.row 2 h3 3 pre.length l.length, .fn g [.rptr 0 h1 1 0 0, .rptr 1 h2 1 0 0]] [.row h1 E1 1 [c1], .row h2 E2 1 [c2], .row h3 80 3 ((pre ++ l).map GAddress.c)]
      fun r N => r = .row 2 h3 3 pre.length (keepA p l).length ∧ N = [.row h1 E1 1 [c1], .row h2 E2 1 [c2], .row h3 80 3 ((pre ++ keepA p l ++ List.replicate (l.length - (keepA p l).length) default).map GAddress.c)] := by
  refine EC.close 3 (EC.enter E_ok call_55 Try.func55 rfl (by simp [Try.ntmps55]) ?_)
  simp only [Try.ntmps55, Try.results55, bindA]
  (repeat (first | (refine EV_seq ?_; intro K hK) | refine EV_block ?_ | ((refine EV_region E_ok ?_; intro R hR fr; simp only [push_cast, bne_self_eq_false, simprocAttr]; (try (simp (disch := omega) only [i64_in', sub_elt, sub_elt0, getD_map2]; (try simp only [push_cast, bne_self_eq_false, simprocAttr])))); (repeat ((with_reducible apply And.intro); focus (first | (intro hA; exact ⟨hA, fun hB => (by first | (rw [hA, hB]; rfl) | simp_all)⟩) | omega | decide | (simp; done) | (simp; omega) | (intro hA; (repeat' apply And.intro) <;> first | exact hA | omega)))); apply_assumption -exfalso) | refine EV_skip ?_ | refine EV_scope ?_ | refine EV_label ?_ | refine EV_exit ?_ | refine EV_ret ?_ | (simp only [thenP, blockP, scopeP, if_true, reduceIte, reduceCtorEq, if_false, Nat.reduceEqDiff]; apply_assumption -exfalso)))
  ((refine EV_region E_ok ?_; intro R hR fr; simp only [push_cast, bne_self_eq_false, simprocAttr]; (try (simp (disch := omega) only [i64_in', sub_elt, sub_elt0, getD_map2]; (try simp only [push_cast, bne_self_eq_false, simprocAttr])))); (repeat ((with_reducible apply And.intro); focus (first | (intro hA; exact ⟨hA, fun hB => (by first | (rw [hA, hB]; rfl) | simp_all)⟩) | omega | decide | (simp; done) | (simp; omega) | (intro hA; (repeat' apply And.intro) <;> first | exact hA | omega)))))
  refine EC.lendG (ec_indexFunc_AD l (by omega) hg) (.cons (Fz.rowP (pre := pre) rfl rfl rfl rfl) (.cons (Fz.fn (.cons (Fz.box rfl) (.cons (Fz.box rfl) .nil))) .nil)) (by rintro _ rfl; rfl) ?_
  rintro _ rfl
  ((try simp only [hg]); refine EO_run E_ok _ 0 _ _ ?_; intro fr; simp only [push_cast, bne_self_eq_false, simprocAttr]; (try (simp (disch := omega) only [i64_in', sub_elt, sub_elt0, getD_map2]; (try simp only [push_cast, bne_self_eq_false, simprocAttr]))); (repeat ((with_reducible apply And.intro); focus (first | (intro hA; exact ⟨hA, fun hB => (by first | (rw [hA, hB]; rfl) | simp_all)⟩) | omega | decide | (simp; done) | (simp; omega) | (intro hA; (repeat' apply And.intro) <;> first | exact hA | omega)))); (try apply_assumption -exfalso))
  (repeat (first | (refine EV_seq ?_; intro K hK) | refine EV_block ?_ | ((refine EV_region E_ok ?_; intro R hR fr; simp only [push_cast, bne_self_eq_false, simprocAttr]; (try (simp (disch := omega) only [i64_in', sub_elt, sub_elt0, getD_map2]; (try simp only [push_cast, bne_self_eq_false, simprocAttr])))); (repeat ((with_reducible apply And.intro); focus (first | (intro hA; exact ⟨hA, fun hB => (by first | (rw [hA, hB]; rfl) | simp_all)⟩) | omega | decide | (simp; done) | (simp; omega) | (intro hA; (repeat' apply And.intro) <;> first | exact hA | omega)))); apply_assumption -exfalso) | refine EV_skip ?_ | refine EV_scope ?_ | refine EV_label ?_ | refine EV_exit ?_ | refine EV_ret ?_ | (simp only [thenP, blockP, scopeP, if_true, reduceIte, reduceCtorEq, if_false, Nat.reduceEqDiff]; apply_assumption -exfalso)))
  (apply EV_cond; exact rfl; all_goals intro h)
  · have e : idxP p 0 l = -1 := by simpa using h
    have hk := keep_all e
    (repeat (first | (refine EV_seq ?_; intro K hK) | refine EV_block ?_ | ((refine EV_region E_ok ?_; intro R hR fr; simp only [push_cast, bne_self_eq_false, simprocAttr]; (try (simp (disch := omega) only [i64_in', sub_elt, sub_elt0, getD_map2]; (try simp only [push_cast, bne_self_eq_false, simprocAttr])))); (repeat ((with_reducible apply And.intro); focus (first | (intro hA; exact ⟨hA, fun hB => (by first | (rw [hA, hB]; rfl) | simp_all)⟩) | omega | decide | (simp; done) | (simp; omega) | (intro hA; (repeat' apply And.intro) <;> first | exact hA | omega)))); apply_assumption -exfalso) | refine EV_skip ?_ | refine EV_scope ?_ | refine EV_label ?_ | refine EV_exit ?_ | refine EV_ret ?_ | (simp only [thenP, blockP, scopeP, if_true, reduceIte, reduceCtorEq, if_false, Nat.reduceEqDiff]; apply_assumption -exfalso)))
    simp only [push_cast, thenP, blockP, scopeP, retP, evR, evRes, evRes1, Nat.zero_lt_one, Nat.reduceEqDiff, Nat.reduceLT, Nat.reduceAdd, Nat.reduceLeDiff, reduceIte, reduceCtorEq]
    simp only [frzKT, frzKLA, frzKA, frzKL, frzKC, frzT, frzLA, frzA, frzL, frzC, fromM, getD', List.getD_cons_zero, List.getD_cons_succ, Nat.zero_le, decide_true, and_true, true_and, and_self, push_cast]
    rw [hk, Nat.sub_self]
    simp
  have hne : ¬ idxP p 0 l = -1 := by simpa using h
  clear h
  obtain ⟨i, hi⟩ : ∃ i : Nat, idxP p 0 l = (i : Int) := by
    rw [idxP_find] at hne ⊢
    split at hne
    · rename_i hn; rw [if_pos hn]; exact ⟨_, rfl⟩
    · exact absurd rfl hne
  obtain ⟨hil, hpi, hki⟩ := keep_first hi
  rw [hi]
  (repeat (first | (refine EV_seq ?_; intro K hK) | refine EV_block ?_ | ((refine EV_region E_ok ?_; intro R hR fr; simp only [push_cast, bne_self_eq_false, simprocAttr]; (try (simp (disch := omega) only [i64_in', sub_elt, sub_elt0, getD_map2]; (try simp only [push_cast, bne_self_eq_false, simprocAttr])))); (repeat ((with_reducible apply And.intro); focus (first | (intro hA; exact ⟨hA, fun hB => (by first | (rw [hA, hB]; rfl) | simp_all)⟩) | omega | decide | (simp; done) | (simp; omega) | (intro hA; (repeat' apply And.intro) <;> first | exact hA | omega)))); apply_assumption -exfalso) | refine EV_skip ?_ | refine EV_scope ?_ | refine EV_label ?_ | refine EV_exit ?_ | refine EV_ret ?_ | (simp only [thenP, blockP, scopeP, if_true, reduceIte, reduceCtorEq, if_false, Nat.reduceEqDiff]; apply_assumption -exfalso)))
  have hk1 : keepA p (l.take (i + 1)) = l.take i := by rw [keep_step hil, if_pos hpi, hki, List.append_nil]
  refine EV_loopB [0, 1] (fun s : Nat × Nat × List GAddress => [(6, .int .i64 s.1), (5, .int .i64 s.2.1)]) (fun B s => updX B 2 ((pre ++ s.2.2).map GAddress.c)) (fun s => s.1 ≤ l.length ∧ s.2.1 < s.1 ∧ s.2.1 = (keepA p (l.take s.1)).length ∧ s.2.2.length = l.length ∧ s.2.2.take s.2.1 = keepA p (l.take s.1) ∧ s.2.2.drop s.1 = l.drop s.1) (fun s => l.length - s.1) (i + 1, i, l) ⟨by omega, by dsimp only; omega, by dsimp only; rw [hk1]; simp; omega, rfl, by dsimp only; rw [hk1], rfl⟩ ⟨rfl, rfl, trivial⟩ rfl ?_
  rintro ⟨j, k, m⟩ ⟨hj, hkj, hk, hm, hmt, hmd⟩
  dsimp only at hj hkj hk hm hmt hmd
  simp only [updX, updH, setX, keepS, lkp, Nat.reduceEqDiff, if_true, if_false, reduceIte, List.cons_append, List.nil_append, List.take_succ_cons, List.take_zero, List.append_nil]
  (repeat (first | (refine EV_seq ?_; intro K hK) | refine EV_block ?_ | ((refine EV_region E_ok ?_; intro R hR fr; simp only [push_cast, bne_self_eq_false, simprocAttr]; (try (simp (disch := omega) only [i64_in', sub_elt, sub_elt0, getD_map2]; (try simp only [push_cast, bne_self_eq_false, simprocAttr])))); (repeat ((with_reducible apply And.intro); focus (first | (intro hA; exact ⟨hA, fun hB => (by first | (rw [hA, hB]; rfl) | simp_all)⟩) | omega | decide | (simp; done) | (simp; omega) | (intro hA; (repeat' apply And.intro) <;> first | exact hA | omega)))); apply_assumption -exfalso) | refine EV_skip ?_ | refine EV_scope ?_ | refine EV_label ?_ | refine EV_exit ?_ | refine EV_ret ?_ | (simp only [thenP, blockP, scopeP, if_true, reduceIte, reduceCtorEq, if_false, Nat.reduceEqDiff]; apply_assumption -exfalso)))
  (apply EV_cond; exact rfl; all_goals intro h)
  · have hlt : j < l.length := by simp at h; omega
    clear h
    have hst := keep_step (p := p) hlt
    have hmj : m.getD j default = l.getD j default := by
      have := congrArg (fun x => x.getD 0 default) hmd
      simp only [List.getD, List.getElem?_drop, Nat.add_zero] at this
      exact this
    have hat : (pre ++ m).getD (pre.length + j) default = l.getD j default := by rw [atP, hmj]
    have hb2 : pre.length + j < (pre ++ m).length := by simp; omega
    (repeat (first | (refine EV_seq ?_; intro K hK) | refine EV_block ?_ | ((refine EV_region E_ok ?_; intro R hR fr; simp only [push_cast, bne_self_eq_false, simprocAttr]; (try (simp (disch := omega) only [i64_in', sub_elt, sub_elt0, getD_map2]; (try simp only [push_cast, bne_self_eq_false, simprocAttr])))); (repeat ((with_reducible apply And.intro); focus (first | (intro hA; exact ⟨hA, fun hB => (by first | (rw [hA, hB]; rfl) | simp_all)⟩) | omega | decide | (simp; done) | (simp; omega) | (intro hA; (repeat' apply And.intro) <;> first | exact hA | omega)))); apply_assumption -exfalso) | refine EV_skip ?_ | refine EV_scope ?_ | refine EV_label ?_ | refine EV_exit ?_ | refine EV_ret ?_ | (simp only [thenP, blockP, scopeP, if_true, reduceIte, reduceCtorEq, if_false, Nat.reduceEqDiff]; apply_assumption -exfalso)))
    simp only [hat]
    ((refine EV_region E_ok ?_; intro R hR fr; simp only [push_cast, bne_self_eq_false, simprocAttr]; (try (simp (disch := omega) only [i64_in', sub_elt, sub_elt0, getD_map2]; (try simp only [push_cast, bne_self_eq_false, simprocAttr])))); (repeat ((with_reducible apply And.intro); focus (first | (intro hA; exact ⟨hA, fun hB => (by first | (rw [hA, hB]; rfl) | simp_all)⟩) | omega | decide | (simp; done) | (simp; omega) | (intro hA; (repeat' apply And.intro) <;> first | exact hA | omega)))))
    refine EC.lendG (hg (l.getD j default)) (.cons Fz.addr (.cons (Fz.box rfl) (.cons (Fz.box rfl) .nil))) (by rintro _ rfl; rfl) ?_
    rintro _ rfl
    ((try simp only [hg]); refine EO_run E_ok _ 0 _ _ ?_; intro fr; simp only [push_cast, bne_self_eq_false, simprocAttr]; (try (simp (disch := omega) only [i64_in', sub_elt, sub_elt0, getD_map2]; (try simp only [push_cast, bne_self_eq_false, simprocAttr]))); (repeat ((with_reducible apply And.intro); focus (first | (intro hA; exact ⟨hA, fun hB => (by first | (rw [hA, hB]; rfl) | simp_all)⟩) | omega | decide | (simp; done) | (simp; omega) | (intro hA; (repeat' apply And.intro) <;> first | exact hA | omega)))); (try apply_assumption -exfalso))
    (repeat (first | (refine EV_seq ?_; intro K hK) | refine EV_block ?_ | ((refine EV_region E_ok ?_; intro R hR fr; simp only [push_cast, bne_self_eq_false, simprocAttr]; (try (simp (disch := omega) only [i64_in', sub_elt, sub_elt0, getD_map2]; (try simp only [push_cast, bne_self_eq_false, simprocAttr])))); (repeat ((with_reducible apply And.intro); focus (first | (intro hA; exact ⟨hA, fun hB => (by first | (rw [hA, hB]; rfl) | simp_all)⟩) | omega | decide | (simp; done) | (simp; omega) | (intro hA; (repeat' apply And.intro) <;> first | exact hA | omega)))); apply_assumption -exfalso) | refine EV_skip ?_ | refine EV_scope ?_ | refine EV_label ?_ | refine EV_exit ?_ | refine EV_ret ?_ | (simp only [thenP, blockP, scopeP, if_true, reduceIte, reduceCtorEq, if_false, Nat.reduceEqDiff]; apply_assumption -exfalso)))
    (apply EV_cond; exact rfl; all_goals intro h)
    · have hpf : p (l.getD j default) = false := by simpa using h
      rw [hpf, if_neg (by simp)] at hst
      have hk2 : pre.length + k < (pre ++ m).length := by simp; omega
      (repeat (first | (refine EV_seq ?_; intro K hK) | refine EV_block ?_ | ((refine EV_region E_ok ?_; intro R hR fr; simp only [push_cast, bne_self_eq_false, simprocAttr]; (try (simp (disch := omega) only [i64_in', sub_elt, sub_elt0, getD_map2]; (try simp only [push_cast, bne_self_eq_false, simprocAttr])))); (repeat ((with_reducible apply And.intro); focus (first | (intro hA; exact ⟨hA, fun hB => (by first | (rw [hA, hB]; rfl) | simp_all)⟩) | omega | decide | (simp; done) | (simp; omega) | (intro hA; (repeat' apply And.intro) <;> first | exact hA | omega)))); apply_assumption -exfalso) | refine EV_skip ?_ | refine EV_scope ?_ | refine EV_label ?_ | refine EV_exit ?_ | refine EV_ret ?_ | (simp only [thenP, blockP, scopeP, if_true, reduceIte, reduceCtorEq, if_false, Nat.reduceEqDiff]; apply_assumption -exfalso)))
      rw [setP]
      (simp only [thenP, blockP, scopeP, if_true, reduceIte, reduceCtorEq, if_false]; refine ⟨(j + 1, k + 1, m.set k (l.getD j default)), ?_, ?_, (by first | (simp [wkS, lkp, List.take_length]; done) | repeat (first | exact trivial | refine And.intro (by first | rfl | (simp only [lkp, push_cast, bne_self_eq_false, simprocAttr]; done) | (simp [lkp]; done)) ?_)), (by first | (simp only [push_cast, List.take_length, List.take_append_of_le_length, bne_self_eq_false, simprocAttr]; done) | (simp [updX, updH, setX]; done))⟩)
      · refine ⟨by dsimp only; omega, by dsimp only; omega, by dsimp only; rw [hst, List.length_append, ← hk]; rfl, by simp [hm], ?_, ?_⟩
        · dsimp only
          rw [hst, ← hmt, List.take_succ_eq_append_getElem (by simp; omega), List.take_set_of_le (Nat.le_refl _)]
          simp
        · dsimp only
          rw [List.drop_set_of_lt (by omega)]
          have := congrArg (List.drop 1) hmd
          simpa [List.drop_drop] using this
      · dsimp only; omega
    · have hpt : p (l.getD j default) = true := by simpa using h
      rw [if_pos hpt, List.append_nil] at hst
      (repeat (first | (refine EV_seq ?_; intro K hK) | refine EV_block ?_ | ((refine EV_region E_ok ?_; intro R hR fr; simp only [push_cast, bne_self_eq_false, simprocAttr]; (try (simp (disch := omega) only [i64_in', sub_elt, sub_elt0, getD_map2]; (try simp only [push_cast, bne_self_eq_false, simprocAttr])))); (repeat ((with_reducible apply And.intro); focus (first | (intro hA; exact ⟨hA, fun hB => (by first | (rw [hA, hB]; rfl) | simp_all)⟩) | omega | decide | (simp; done) | (simp; omega) | (intro hA; (repeat' apply And.intro) <;> first | exact hA | omega)))); apply_assumption -exfalso) | refine EV_skip ?_ | refine EV_scope ?_ | refine EV_label ?_ | refine EV_exit ?_ | refine EV_ret ?_ | (simp only [thenP, blockP, scopeP, if_true, reduceIte, reduceCtorEq, if_false, Nat.reduceEqDiff]; apply_assumption -exfalso)))
      (simp only [thenP, blockP, scopeP, if_true, reduceIte, reduceCtorEq, if_false]; refine ⟨(j + 1, k, m), ?_, ?_, (by first | (simp [wkS, lkp, List.take_length]; done) | repeat (first | exact trivial | refine And.intro (by first | rfl | (simp only [lkp, push_cast, bne_self_eq_false, simprocAttr]; done) | (simp [lkp]; done)) ?_)), (by first | (simp only [push_cast, List.take_length, List.take_append_of_le_length, bne_self_eq_false, simprocAttr]; done) | (simp [updX, updH, setX]; done))⟩)
      · refine ⟨by dsimp only; omega, by dsimp only; omega, by dsimp only; rw [hst, ← hk], hm, by dsimp only; rw [hst, ← hmt], ?_⟩
        dsimp only
        have := congrArg (List.drop 1) hmd
        simpa [List.drop_drop] using this
      · dsimp only; omega
  · have e : j = l.length := by simp at h; omega
    clear h
    subst e
    rw [List.take_length] at hmt hk
    (repeat (first | (refine EV_seq ?_; intro K hK) | refine EV_block ?_ | ((refine EV_region E_ok ?_; intro R hR fr; simp only [push_cast, bne_self_eq_false, simprocAttr]; (try (simp (disch := omega) only [i64_in', sub_elt, sub_elt0, getD_map2]; (try simp only [push_cast, bne_self_eq_false, simprocAttr])))); (repeat ((with_reducible apply And.intro); focus (first | (intro hA; exact ⟨hA, fun hB => (by first | (rw [hA, hB]; rfl) | simp_all)⟩) | omega | decide | (simp; done) | (simp; omega) | (intro hA; (repeat' apply And.intro) <;> first | exact hA | omega)))); apply_assumption -exfalso) | refine EV_skip ?_ | refine EV_scope ?_ | refine EV_label ?_ | refine EV_exit ?_ | refine EV_ret ?_ | (simp only [thenP, blockP, scopeP, if_true, reduceIte, reduceCtorEq, if_false, Nat.reduceEqDiff]; apply_assumption -exfalso)))
    simp only [push_cast, thenP, blockP, scopeP, retP, evR, evRes, evRes1, Nat.zero_lt_one, Nat.reduceEqDiff, Nat.reduceLT, Nat.reduceAdd, Nat.reduceLeDiff, reduceIte, reduceCtorEq]
    simp only [frzKT, frzKLA, frzKA, frzKL, frzKC, frzT, frzLA, frzA, frzL, frzC, fromM, getD', List.getD_cons_zero, List.getD_cons_succ, Nat.zero_le, decide_true, and_true, true_and, and_self, push_cast]
    have hkl : k ≤ l.length := by rw [hk]; exact keep_le p l
    have hfin : List.take (pre.length + k) ((pre ++ m).map GAddress.c) ++ List.replicate (l.length - k) (default : GAddress).c ++ List.drop (pre.length + k + (l.length - k)) ((pre ++ m).map GAddress.c) = (pre ++ keepA p l ++ List.replicate (l.length - k) default).map GAddress.c := by
      rw [List.drop_eq_nil_of_le (by simp; omega), List.append_nil, ← List.map_take, List.take_length_add_append, hmt]
      simp
    refine ⟨trivial, by rw [← hk]; rfl, ?_⟩
    rw [← hk]
    exact congrArg (fun z => [Own.row h1 E1 1 [c1], Own.row h2 E2 1 [c2], Own.row h3 80 3 z]) hfin
end Go.Proofs.Ytnnabccfagojhaa
