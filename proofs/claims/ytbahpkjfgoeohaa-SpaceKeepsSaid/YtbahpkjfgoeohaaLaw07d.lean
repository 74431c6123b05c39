-- SG
/- SpaceCounts: the walk. -/
import Derived.Test.YtbahpkjfgoeohaaLaw07b
namespace Go.Proofs.Ytbahpkjfgoeohaa
open Go.Lift
set_option linter.unusedSimpArgs false
set_option linter.unusedVariables false
set_option maxRecDepth 10000
theorem spFind_ok {l : List GPageRef} {a : Int} (hl : spOk l = true) (ha : 0 ≤ a) : ((spFind l a).2.2 == 0) = decide (a < (l.length : Int) * 16) := by
  by_cases h : a < (l.length : Int) * 16
  · simp [spFind, hl, h, show ¬ a < 0 by omega, show ¬ (l.length : Int) * 16 ≤ a by omega]
  · simp [spFind, hl, h, show ¬ a < 0 by omega, show (l.length : Int) * 16 ≤ a by omega]
theorem spFind_in {l : List GPageRef} {a : Int} (hl : spOk l = true) (ha : 0 ≤ a) (h : a < (l.length : Int) * 16) : spFind l a = ((l.getD (a / 16).toNat default).ID, a % 16, 0) := by
  simp [spFind, hl, show ¬ a < 0 by omega, show ¬ (l.length : Int) * 16 ≤ a by omega]
theorem spOk_at {l : List GPageRef} (h : spOk l = true) {i : Nat} (hi : i < l.length) : pgP l i = true := by
  simp only [spOk, Bool.and_eq_true, List.all_eq_true] at h
  exact h.1 i (by simpa using hi)
theorem spOk_sh {l : List GPageRef} (h : spOk l = true) {i j : Nat} (hij : i < j) (hj : j < l.length) (he : (l.getD i default).ID = (l.getD j default).ID) : (l.getD i default).Shared = true ∧ (l.getD j default).Shared = true := by
  have h1 := spOk_at h hj
  simp only [pgP, Bool.and_eq_true, Bool.not_eq_true', List.any_eq_false] at h1
  have h2 := h1.2 (l.getD i default) (List.mem_take_iff_getElem.2 ⟨i, by omega, by simp [List.getD, show i < l.length by omega]⟩)
  simp only [again, he, beq_self_eq_true, Bool.true_and, Bool.or_eq_true, Bool.not_eq_true'] at h2
  cases hs : (l.getD i default).Shared <;> cases ht : (l.getD j default).Shared <;> simp_all
theorem counts_law {m : List GPageRef} {a b : Int} (hm : spOk m = true) (ha : 0 ≤ a) (hA : a < (m.length : Int) * 16) (hb : 0 ≤ b) (hB : b < (m.length : Int) * 16) :
    ((a != b || (m.getD (a / 16).toNat default).ID == (m.getD (b / 16).toNat default).ID && a % 16 == b % 16) &&
      (!((m.getD (a / 16).toNat default).ID == (m.getD (b / 16).toNat default).ID && a % 16 == b % 16) || a == b || (m.getD ((a / 16).toNat : Int).toNat default).Shared) &&
      a % 16 == a % 16 && (m.getD ((b / 16).toNat : Int).toNat default).ID == (m.getD (b / 16).toNat default).ID) = true := by
  rw [Int.toNat_natCast, Int.toNat_natCast]
  by_cases e : a = b
  · subst e; simp
  · by_cases hid : (m.getD (a / 16).toNat default).ID = (m.getD (b / 16).toNat default).ID
    · by_cases hr : a % 16 = b % 16
      · have : (m.getD (a / 16).toNat default).Shared = true := by
          rcases Nat.lt_trichotomy (a / 16).toNat (b / 16).toNat with h | h | h
          · exact (spOk_sh hm h (by omega) hid).1
          · omega
          · exact (spOk_sh hm h (by omega) hid.symm).2
        simp only [this, hid, hr, beq_self_eq_true, Bool.and_self, Bool.or_true]
      · simp [e, hr]
    · have : ((m.getD (a / 16).toNat default).ID == (m.getD (b / 16).toNat default).ID) = false := by simpa using hid
      rw [this]
      simp [e]
theorem ec_SpaceCounts (l : List Int) (a b : Int) (hl : l.length ≤ 9223372036854775807) (ha : 0 ≤ a ∧ a ≤ 255) (hb : 0 ≤ b ∧ b ≤ 255) : EC Try.prog 3 [slL 1 (intC .u8) default l, .int .u8 a, .int .u8 b] [] fun r B => B = [] ∧ r = .bool true := by
  have wa : IntKind.i64.wrap a = a := i64_in' (by omega)
  have wb : IntKind.i64.wrap b = b := i64_in' (by omega)
  have da : IntKind.i64.wrap (a.tdiv 16) = ((a / 16).toNat : Int) ∧ a.tmod 16 = a % 16 := find_div (by omega)
  have db : IntKind.i64.wrap (b.tdiv 16) = ((b / 16).toNat : Int) ∧ b.tmod 16 = b % 16 := find_div (by omega)
  refine EC.fin (EC.enter E_ok call_3 Try.func3 rfl (by simp [Try.ntmps3]) ?_)
  simp only [Try.ntmps3, Try.results3, bindA]
  (repeat (first | (refine EV_seq ?_; intro K hK) | refine EV_block ?_ | ((refine EV_region E_ok ?_; intro R hR fr; simp only [push_cast, bne_self_eq_false, simprocAttr]; (try (simp (disch := omega) only [i64_in', sub_elt, sub_elt0, getD_map2]; (try simp only [push_cast, bne_self_eq_false, simprocAttr])))); (repeat ((with_reducible apply And.intro); focus (first | (intro hA; exact ⟨hA, fun hB => (by first | (rw [hA, hB]; rfl) | simp_all)⟩) | omega | decide | (simp; done) | (simp; omega) | (intro hA; (repeat' apply And.intro) <;> first | exact hA | omega)))); apply_assumption -exfalso) | refine EV_skip ?_ | refine EV_scope ?_ | refine EV_label ?_ | refine EV_exit ?_ | refine EV_ret ?_ | (simp only [thenP, blockP, scopeP, if_true, reduceIte, reduceCtorEq, if_false, Nat.reduceEqDiff]; apply_assumption -exfalso)))
  ((refine EV_region E_ok ?_; intro R hR fr; simp only [push_cast, bne_self_eq_false, simprocAttr]; (try (simp (disch := omega) only [i64_in', sub_elt, sub_elt0, getD_map2]; (try simp only [push_cast, bne_self_eq_false, simprocAttr])))); (repeat ((with_reducible apply And.intro); focus (first | (intro hA; exact ⟨hA, fun hB => (by first | (rw [hA, hB]; rfl) | simp_all)⟩) | omega | decide | (simp; done) | (simp; omega) | (intro hA; (repeat' apply And.intro) <;> first | exact hA | omega)))))
  (refine EC.use (ec_law07_sane) ?_; (try simp only [hg]); refine EO_run E_ok _ 0 _ _ ?_; intro fr; simp only [push_cast, bne_self_eq_false, simprocAttr]; (try (simp (disch := omega) only [i64_in', sub_elt, sub_elt0, getD_map2]; (try simp only [push_cast, bne_self_eq_false, simprocAttr]))); (repeat ((with_reducible apply And.intro); focus (first | (intro hA; exact ⟨hA, fun hB => (by first | (rw [hA, hB]; rfl) | simp_all)⟩) | omega | decide | (simp; done) | (simp; omega) | (intro hA; (repeat' apply And.intro) <;> first | exact hA | omega)))); (try apply_assumption -exfalso))
  (repeat (first | (refine EV_seq ?_; intro K hK) | refine EV_block ?_ | ((refine EV_region E_ok ?_; intro R hR fr; simp only [push_cast, bne_self_eq_false, simprocAttr]; (try (simp (disch := omega) only [i64_in', sub_elt, sub_elt0, getD_map2]; (try simp only [push_cast, bne_self_eq_false, simprocAttr])))); (repeat ((with_reducible apply And.intro); focus (first | (intro hA; exact ⟨hA, fun hB => (by first | (rw [hA, hB]; rfl) | simp_all)⟩) | omega | decide | (simp; done) | (simp; omega) | (intro hA; (repeat' apply And.intro) <;> first | exact hA | omega)))); apply_assumption -exfalso) | refine EV_skip ?_ | refine EV_scope ?_ | refine EV_label ?_ | refine EV_exit ?_ | refine EV_ret ?_ | (simp only [thenP, blockP, scopeP, if_true, reduceIte, reduceCtorEq, if_false, Nat.reduceEqDiff]; apply_assumption -exfalso)))
  (apply EV_cond; exact rfl; all_goals intro h)
  · simp at h
  clear h
  (repeat (first | (refine EV_seq ?_; intro K hK) | refine EV_block ?_ | ((refine EV_region E_ok ?_; intro R hR fr; simp only [push_cast, bne_self_eq_false, simprocAttr]; (try (simp (disch := omega) only [i64_in', sub_elt, sub_elt0, getD_map2]; (try simp only [push_cast, bne_self_eq_false, simprocAttr])))); (repeat ((with_reducible apply And.intro); focus (first | (intro hA; exact ⟨hA, fun hB => (by first | (rw [hA, hB]; rfl) | simp_all)⟩) | omega | decide | (simp; done) | (simp; omega) | (intro hA; (repeat' apply And.intro) <;> first | exact hA | omega)))); apply_assumption -exfalso) | refine EV_skip ?_ | refine EV_scope ?_ | refine EV_label ?_ | refine EV_exit ?_ | refine EV_ret ?_ | (simp only [thenP, blockP, scopeP, if_true, reduceIte, reduceCtorEq, if_false, Nat.reduceEqDiff]; apply_assumption -exfalso)))
  ((refine EV_region E_ok ?_; intro R hR fr; simp only [push_cast, bne_self_eq_false, simprocAttr]; (try (simp (disch := omega) only [i64_in', sub_elt, sub_elt0, getD_map2]; (try simp only [push_cast, bne_self_eq_false, simprocAttr])))); (repeat ((with_reducible apply And.intro); focus (first | (intro hA; exact ⟨hA, fun hB => (by first | (rw [hA, hB]; rfl) | simp_all)⟩) | omega | decide | (simp; done) | (simp; omega) | (intro hA; (repeat' apply And.intro) <;> first | exact hA | omega)))))
  (refine EC.useP (ec_law07_made l hl) ?_; rintro m hm; (try simp only [hg]); refine EO_run E_ok _ 0 _ _ ?_; intro fr; simp only [push_cast, bne_self_eq_false, simprocAttr]; (try (simp (disch := omega) only [i64_in', sub_elt, sub_elt0, getD_map2]; (try simp only [push_cast, bne_self_eq_false, simprocAttr]))); (repeat ((with_reducible apply And.intro); focus (first | (intro hA; exact ⟨hA, fun hB => (by first | (rw [hA, hB]; rfl) | simp_all)⟩) | omega | decide | (simp; done) | (simp; omega) | (intro hA; (repeat' apply And.intro) <;> first | exact hA | omega)))); (try apply_assumption -exfalso))
  have hm16 := spOk_16 hm
  have fa := spFind_ok hm ha.1
  have fb := spFind_ok hm hb.1
  (repeat (first | (refine EV_seq ?_; intro K hK) | refine EV_block ?_ | ((refine EV_region E_ok ?_; intro R hR fr; simp only [push_cast, bne_self_eq_false, simprocAttr]; (try (simp (disch := omega) only [i64_in', sub_elt, sub_elt0, getD_map2]; (try simp only [push_cast, bne_self_eq_false, simprocAttr])))); (repeat ((with_reducible apply And.intro); focus (first | (intro hA; exact ⟨hA, fun hB => (by first | (rw [hA, hB]; rfl) | simp_all)⟩) | omega | decide | (simp; done) | (simp; omega) | (intro hA; (repeat' apply And.intro) <;> first | exact hA | omega)))); apply_assumption -exfalso) | refine EV_skip ?_ | refine EV_scope ?_ | refine EV_label ?_ | refine EV_exit ?_ | refine EV_ret ?_ | (simp only [thenP, blockP, scopeP, if_true, reduceIte, reduceCtorEq, if_false, Nat.reduceEqDiff]; apply_assumption -exfalso)))
  ((refine EV_region E_ok ?_; intro R hR fr; simp only [push_cast, bne_self_eq_false, simprocAttr]; (try (simp (disch := omega) only [i64_in', sub_elt, sub_elt0, getD_map2]; (try simp only [push_cast, bne_self_eq_false, simprocAttr])))); (repeat ((with_reducible apply And.intro); focus (first | (intro hA; exact ⟨hA, fun hB => (by first | (rw [hA, hB]; rfl) | simp_all)⟩) | omega | decide | (simp; done) | (simp; omega) | (intro hA; (repeat' apply And.intro) <;> first | exact hA | omega)))))
  try simp only [wa]
  (refine EC.use (ec_space_Find m a (by omega) (by omega)) ?_; (try simp only [hg]); refine EO_run E_ok _ 0 _ _ ?_; intro fr; simp only [push_cast, bne_self_eq_false, simprocAttr]; (try (simp (disch := omega) only [i64_in', sub_elt, sub_elt0, getD_map2]; (try simp only [push_cast, bne_self_eq_false, simprocAttr]))); (repeat ((with_reducible apply And.intro); focus (first | (intro hA; exact ⟨hA, fun hB => (by first | (rw [hA, hB]; rfl) | simp_all)⟩) | omega | decide | (simp; done) | (simp; omega) | (intro hA; (repeat' apply And.intro) <;> first | exact hA | omega)))); (try apply_assumption -exfalso))
  (repeat (first | (refine EV_seq ?_; intro K hK) | refine EV_block ?_ | ((refine EV_region E_ok ?_; intro R hR fr; simp only [push_cast, bne_self_eq_false, simprocAttr]; (try (simp (disch := omega) only [i64_in', sub_elt, sub_elt0, getD_map2]; (try simp only [push_cast, bne_self_eq_false, simprocAttr])))); (repeat ((with_reducible apply And.intro); focus (first | (intro hA; exact ⟨hA, fun hB => (by first | (rw [hA, hB]; rfl) | simp_all)⟩) | omega | decide | (simp; done) | (simp; omega) | (intro hA; (repeat' apply And.intro) <;> first | exact hA | omega)))); apply_assumption -exfalso) | refine EV_skip ?_ | refine EV_scope ?_ | refine EV_label ?_ | refine EV_exit ?_ | refine EV_ret ?_ | (simp only [thenP, blockP, scopeP, if_true, reduceIte, reduceCtorEq, if_false, Nat.reduceEqDiff]; apply_assumption -exfalso)))
  ((refine EV_region E_ok ?_; intro R hR fr; simp only [push_cast, bne_self_eq_false, simprocAttr]; (try (simp (disch := omega) only [i64_in', sub_elt, sub_elt0, getD_map2]; (try simp only [push_cast, bne_self_eq_false, simprocAttr])))); (repeat ((with_reducible apply And.intro); focus (first | (intro hA; exact ⟨hA, fun hB => (by first | (rw [hA, hB]; rfl) | simp_all)⟩) | omega | decide | (simp; done) | (simp; omega) | (intro hA; (repeat' apply And.intro) <;> first | exact hA | omega)))))
  try simp only [wb]
  (refine EC.use (ec_space_Find m b (by omega) (by omega)) ?_; (try simp only [hg]); refine EO_run E_ok _ 0 _ _ ?_; intro fr; simp only [push_cast, bne_self_eq_false, simprocAttr]; (try (simp (disch := omega) only [i64_in', sub_elt, sub_elt0, getD_map2]; (try simp only [push_cast, bne_self_eq_false, simprocAttr]))); (repeat ((with_reducible apply And.intro); focus (first | (intro hA; exact ⟨hA, fun hB => (by first | (rw [hA, hB]; rfl) | simp_all)⟩) | omega | decide | (simp; done) | (simp; omega) | (intro hA; (repeat' apply And.intro) <;> first | exact hA | omega)))); (try apply_assumption -exfalso))
  (repeat (first | (refine EV_seq ?_; intro K hK) | refine EV_block ?_ | ((refine EV_region E_ok ?_; intro R hR fr; simp only [push_cast, bne_self_eq_false, simprocAttr]; (try (simp (disch := omega) only [i64_in', sub_elt, sub_elt0, getD_map2]; (try simp only [push_cast, bne_self_eq_false, simprocAttr])))); (repeat ((with_reducible apply And.intro); focus (first | (intro hA; exact ⟨hA, fun hB => (by first | (rw [hA, hB]; rfl) | simp_all)⟩) | omega | decide | (simp; done) | (simp; omega) | (intro hA; (repeat' apply And.intro) <;> first | exact hA | omega)))); apply_assumption -exfalso) | refine EV_skip ?_ | refine EV_scope ?_ | refine EV_label ?_ | refine EV_exit ?_ | refine EV_ret ?_ | (simp only [thenP, blockP, scopeP, if_true, reduceIte, reduceCtorEq, if_false, Nat.reduceEqDiff]; apply_assumption -exfalso)))
  simp only [fa, fb, wa, wb]
  (apply EV_cond; exact rfl; all_goals intro h)
  · simp at h
  clear h
  (repeat (first | (refine EV_seq ?_; intro K hK) | refine EV_block ?_ | ((refine EV_region E_ok ?_; intro R hR fr; simp only [push_cast, bne_self_eq_false, simprocAttr]; (try (simp (disch := omega) only [i64_in', sub_elt, sub_elt0, getD_map2]; (try simp only [push_cast, bne_self_eq_false, simprocAttr])))); (repeat ((with_reducible apply And.intro); focus (first | (intro hA; exact ⟨hA, fun hB => (by first | (rw [hA, hB]; rfl) | simp_all)⟩) | omega | decide | (simp; done) | (simp; omega) | (intro hA; (repeat' apply And.intro) <;> first | exact hA | omega)))); apply_assumption -exfalso) | refine EV_skip ?_ | refine EV_scope ?_ | refine EV_label ?_ | refine EV_exit ?_ | refine EV_ret ?_ | (simp only [thenP, blockP, scopeP, if_true, reduceIte, reduceCtorEq, if_false, Nat.reduceEqDiff]; apply_assumption -exfalso)))
  (apply EV_cond; exact rfl; all_goals intro h)
  · (repeat (first | (refine EV_seq ?_; intro K hK) | refine EV_block ?_ | ((refine EV_region E_ok ?_; intro R hR fr; simp only [push_cast, bne_self_eq_false, simprocAttr]; (try (simp (disch := omega) only [i64_in', sub_elt, sub_elt0, getD_map2]; (try simp only [push_cast, bne_self_eq_false, simprocAttr])))); (repeat ((with_reducible apply And.intro); focus (first | (intro hA; exact ⟨hA, fun hB => (by first | (rw [hA, hB]; rfl) | simp_all)⟩) | omega | decide | (simp; done) | (simp; omega) | (intro hA; (repeat' apply And.intro) <;> first | exact hA | omega)))); apply_assumption -exfalso) | refine EV_skip ?_ | refine EV_scope ?_ | refine EV_label ?_ | refine EV_exit ?_ | refine EV_ret ?_ | (simp only [thenP, blockP, scopeP, if_true, reduceIte, reduceCtorEq, if_false, Nat.reduceEqDiff]; apply_assumption -exfalso)))
    (simp only [push_cast, thenP, blockP, scopeP, retP, evR, evRes, evRes1, Nat.zero_lt_one, Nat.reduceEqDiff, Nat.reduceLT, Nat.reduceAdd, Nat.reduceLeDiff, reduceIte, reduceCtorEq]; simp only [frzKT, frzKLA, frzKA, frzKL, frzKC, frzT, frzLA, frzA, frzL, frzC, fromM, getD', List.getD_cons_zero, List.getD_cons_succ, Nat.zero_le, decide_true, and_true, true_and, and_self, push_cast]; refine SLe.of_eq ?_; rfl)
  have hA : a < (m.length : Int) * 16 ∧ b < (m.length : Int) * 16 := by
    simp [bne, fa, fb] at h; omega
  clear h
  simp only [spFind_in hm ha.1 hA.1, spFind_in hm hb.1 hA.2]
  (repeat (first | (refine EV_seq ?_; intro K hK) | refine EV_block ?_ | ((refine EV_region E_ok ?_; intro R hR fr; simp only [push_cast, bne_self_eq_false, simprocAttr]; (try (simp (disch := omega) only [i64_in', sub_elt, sub_elt0, getD_map2]; (try simp only [push_cast, bne_self_eq_false, simprocAttr])))); (repeat ((with_reducible apply And.intro); focus (first | (intro hA; exact ⟨hA, fun hB => (by first | (rw [hA, hB]; rfl) | simp_all)⟩) | omega | decide | (simp; done) | (simp; omega) | (intro hA; (repeat' apply And.intro) <;> first | exact hA | omega)))); apply_assumption -exfalso) | refine EV_skip ?_ | refine EV_scope ?_ | refine EV_label ?_ | refine EV_exit ?_ | refine EV_ret ?_ | (simp only [thenP, blockP, scopeP, if_true, reduceIte, reduceCtorEq, if_false, Nat.reduceEqDiff]; apply_assumption -exfalso)))
  (simp only [push_cast, thenP, blockP, scopeP, retP, evR, evRes, evRes1, Nat.zero_lt_one, Nat.reduceEqDiff, Nat.reduceLT, Nat.reduceAdd, Nat.reduceLeDiff, reduceIte, reduceCtorEq]; simp only [frzKT, frzKLA, frzKA, frzKL, frzKC, frzT, frzLA, frzA, frzL, frzC, fromM, getD', List.getD_cons_zero, List.getD_cons_succ, Nat.zero_le, decide_true, and_true, true_and, and_self, push_cast]; refine SLe.of_eq ?_; (rw [da.1, da.2, db.1]; exact congrArg SV.bool (counts_law hm (by omega) hA.1 (by omega) hA.2)))
end Go.Proofs.Ytbahpkjfgoeohaa
