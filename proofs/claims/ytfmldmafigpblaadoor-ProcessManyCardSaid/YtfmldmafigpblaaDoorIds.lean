/- Places of numbers in lists; lists of identifiers. -/
import Derived.Test.YtfmldmafigpblaaDoorClone
import Derived.Test.YtfmldmafigpblaaDoorBlank
import Derived.Test.YtfmldmafigpblaaDoorFin
namespace Go.Proofs.YtfmldmafigpblaaDoor
open Go.Lift
set_option linter.unusedSimpArgs false
set_option linter.unusedVariables false
set_option maxRecDepth 10000
attribute [push_cast] Option.toList_none Option.toList_some
/-- The first place of a number, or -1. -/
def idxI (x : Int) : Nat → List Int → Int
  | _, [] => -1
  | i, y :: t => if x = y then (i : Int) else idxI x (i + 1) t
theorem idxI_ge (x : Int) (l : List Int) : ∀ i, 0 ≤ idxI x i l ↔ x ∈ l := by
  induction l with
  | nil => intro i; simp [idxI]
  | cons y t ih =>
    intro i
    simp only [idxI, List.mem_cons]
    split
    · simp [*]
    · simp [*]
theorem idxI_step {x : Int} {l : List Int} {i : Nat} (h : i < l.length) : idxI x i (l.drop i) = if x = l.getD i default then (i : Int) else idxI x (i + 1) (l.drop (i + 1)) := by
  rw [List.drop_eq_getElem_cons h]
  simp [idxI, List.getD, h]
theorem sle_take {α : Type} {E : Nat} {c : α → List SV} {d : α} {l : List α} {i : Nat} (h : i ≤ l.length) : SLe (.sl false E i (elt c d l)) (slL E c d (l.take i)) := by
  have e : (l.take i).length = i := by simp [h]
  simp only [slL, e]
  refine SLe.sl (fun h => h) (.inr rfl) fun k hk => ?_
  simp only [elt, List.getD, List.getElem?_take, hk, if_true]
theorem ec_index_u64 (l : List Int) (x : Int) (hl : l.length ≤ 1000000) : EC Tryd.prog 17 [slL 1 (intC .u64) default l, .int .u64 x] [] fun r B => B = [] ∧ r = .int .i64 (idxI x 0 l) := by
  refine EC.fin (EC.enter E_ok call_17 Tryd.func17 rfl (by simp [Tryd.ntmps17]) ?_)
  simp only [Tryd.ntmps17, Tryd.results17, bindA]
  (repeat (first | (refine EV_seq ?_; intro K hK) | refine EV_block ?_ | ((refine EV_region E_ok ?_; intro R hR fr; simp only [push_cast, bne_self_eq_false, simprocAttr]; (try (simp (disch := omega) only [i64_in', sub_elt, sub_elt0, getD_map2]; (try simp only [push_cast, bne_self_eq_false, simprocAttr])))); (repeat ((with_reducible apply And.intro); focus (first | (intro hA; exact ⟨hA, fun hB => (by rw [hA, hB]; rfl)⟩) | omega | decide | (simp; done) | (simp; omega)))); apply_assumption -exfalso) | refine EV_skip ?_ | refine EV_scope ?_ | refine EV_label ?_ | refine EV_exit ?_ | refine EV_ret ?_ | (simp only [thenP, blockP, scopeP, if_true, reduceIte, reduceCtorEq, if_false, Nat.reduceEqDiff]; apply_assumption -exfalso)))
  refine EV_loopL [0, 1, 7] (fun i : Nat => [(8, .int .i64 i)]) (fun i => i ≤ l.length ∧ idxI x 0 l = idxI x i (l.drop i)) (fun i => l.length - i) 0 ⟨Nat.zero_le _, rfl⟩ ⟨rfl, trivial⟩ ?_
  rintro i ⟨hi, hx⟩
  simp only [updX, updH, setX, keepS, lkp, Nat.reduceEqDiff, if_true, if_false, reduceIte, List.cons_append, List.nil_append, List.take_succ_cons, List.take_zero, List.append_nil]
  (repeat (first | (refine EV_seq ?_; intro K hK) | refine EV_block ?_ | ((refine EV_region E_ok ?_; intro R hR fr; simp only [push_cast, bne_self_eq_false, simprocAttr]; (try (simp (disch := omega) only [i64_in', sub_elt, sub_elt0, getD_map2]; (try simp only [push_cast, bne_self_eq_false, simprocAttr])))); (repeat ((with_reducible apply And.intro); focus (first | (intro hA; exact ⟨hA, fun hB => (by rw [hA, hB]; rfl)⟩) | omega | decide | (simp; done) | (simp; omega)))); apply_assumption -exfalso) | refine EV_skip ?_ | refine EV_scope ?_ | refine EV_label ?_ | refine EV_exit ?_ | refine EV_ret ?_ | (simp only [thenP, blockP, scopeP, if_true, reduceIte, reduceCtorEq, if_false, Nat.reduceEqDiff]; apply_assumption -exfalso)))
  (apply EV_cond; exact rfl; all_goals intro h)
  · have hlt : i < l.length := by simp at h; omega
    clear h
    rw [idxI_step hlt] at hx
    (repeat (first | (refine EV_seq ?_; intro K hK) | refine EV_block ?_ | ((refine EV_region E_ok ?_; intro R hR fr; simp only [push_cast, bne_self_eq_false, simprocAttr]; (try (simp (disch := omega) only [i64_in', sub_elt, sub_elt0, getD_map2]; (try simp only [push_cast, bne_self_eq_false, simprocAttr])))); (repeat ((with_reducible apply And.intro); focus (first | (intro hA; exact ⟨hA, fun hB => (by rw [hA, hB]; rfl)⟩) | omega | decide | (simp; done) | (simp; omega)))); apply_assumption -exfalso) | refine EV_skip ?_ | refine EV_scope ?_ | refine EV_label ?_ | refine EV_exit ?_ | refine EV_ret ?_ | (simp only [thenP, blockP, scopeP, if_true, reduceIte, reduceCtorEq, if_false, Nat.reduceEqDiff]; apply_assumption -exfalso)))
    (apply EV_cond; exact rfl; all_goals intro h)
    · have e : x = l.getD i default := by simpa using h
      rw [if_pos e] at hx
      (repeat (first | (refine EV_seq ?_; intro K hK) | refine EV_block ?_ | ((refine EV_region E_ok ?_; intro R hR fr; simp only [push_cast, bne_self_eq_false, simprocAttr]; (try (simp (disch := omega) only [i64_in', sub_elt, sub_elt0, getD_map2]; (try simp only [push_cast, bne_self_eq_false, simprocAttr])))); (repeat ((with_reducible apply And.intro); focus (first | (intro hA; exact ⟨hA, fun hB => (by rw [hA, hB]; rfl)⟩) | omega | decide | (simp; done) | (simp; omega)))); apply_assumption -exfalso) | refine EV_skip ?_ | refine EV_scope ?_ | refine EV_label ?_ | refine EV_exit ?_ | refine EV_ret ?_ | (simp only [thenP, blockP, scopeP, if_true, reduceIte, reduceCtorEq, if_false, Nat.reduceEqDiff]; apply_assumption -exfalso)))
      (simp only [push_cast, thenP, blockP, scopeP, retP, evR, evRes, evRes1, Nat.zero_lt_one, Nat.reduceEqDiff, Nat.reduceLT, Nat.reduceAdd, Nat.reduceLeDiff, reduceIte, reduceCtorEq]; simp only [frzKT, frzKLA, frzKA, frzKL, frzKC, frzT, frzLA, frzA, frzL, frzC, fromM, getD', List.getD_cons_zero, List.getD_cons_succ, Nat.zero_le, decide_true, and_true, true_and, and_self, push_cast]; refine SLe.of_eq ?_; rw [hx])
    · have e : ¬ x = l.getD i default := by simpa using h
      rw [if_neg e] at hx
      (repeat (first | (refine EV_seq ?_; intro K hK) | refine EV_block ?_ | ((refine EV_region E_ok ?_; intro R hR fr; simp only [push_cast, bne_self_eq_false, simprocAttr]; (try (simp (disch := omega) only [i64_in', sub_elt, sub_elt0, getD_map2]; (try simp only [push_cast, bne_self_eq_false, simprocAttr])))); (repeat ((with_reducible apply And.intro); focus (first | (intro hA; exact ⟨hA, fun hB => (by rw [hA, hB]; rfl)⟩) | omega | decide | (simp; done) | (simp; omega)))); apply_assumption -exfalso) | refine EV_skip ?_ | refine EV_scope ?_ | refine EV_label ?_ | refine EV_exit ?_ | refine EV_ret ?_ | (simp only [thenP, blockP, scopeP, if_true, reduceIte, reduceCtorEq, if_false, Nat.reduceEqDiff]; apply_assumption -exfalso)))
      (simp only [thenP, blockP, scopeP, if_true, reduceIte, reduceCtorEq, if_false]; refine ⟨i + 1, ?_, ?_, (by first | (simp [wkS, lkp, List.take_length]; done) | repeat (first | exact trivial | refine And.intro (by first | rfl | (simp only [lkp, push_cast, bne_self_eq_false, simprocAttr]; done) | (simp [lkp]; done)) ?_)), (by first | (simp only [push_cast, List.take_length, List.take_append_of_le_length, bne_self_eq_false, simprocAttr]; done) | (simp [updX, updH, setX]; done))⟩)
      · exact ⟨by omega, hx⟩
      · omega
  · have e : i = l.length := by simp at h; omega
    clear h
    rw [e, List.drop_length] at hx
    (repeat (first | (refine EV_seq ?_; intro K hK) | refine EV_block ?_ | ((refine EV_region E_ok ?_; intro R hR fr; simp only [push_cast, bne_self_eq_false, simprocAttr]; (try (simp (disch := omega) only [i64_in', sub_elt, sub_elt0, getD_map2]; (try simp only [push_cast, bne_self_eq_false, simprocAttr])))); (repeat ((with_reducible apply And.intro); focus (first | (intro hA; exact ⟨hA, fun hB => (by rw [hA, hB]; rfl)⟩) | omega | decide | (simp; done) | (simp; omega)))); apply_assumption -exfalso) | refine EV_skip ?_ | refine EV_scope ?_ | refine EV_label ?_ | refine EV_exit ?_ | refine EV_ret ?_ | (simp only [thenP, blockP, scopeP, if_true, reduceIte, reduceCtorEq, if_false, Nat.reduceEqDiff]; apply_assumption -exfalso)))
    (simp only [push_cast, thenP, blockP, scopeP, retP, evR, evRes, evRes1, Nat.zero_lt_one, Nat.reduceEqDiff, Nat.reduceLT, Nat.reduceAdd, Nat.reduceLeDiff, reduceIte, reduceCtorEq]; simp only [frzKT, frzKLA, frzKA, frzKL, frzKC, frzT, frzLA, frzA, frzL, frzC, fromM, getD', List.getD_cons_zero, List.getD_cons_succ, Nat.zero_le, decide_true, and_true, true_and, and_self, push_cast]; refine SLe.of_eq ?_; rw [hx]; rfl)
theorem ec_contains_u64 (l : List Int) (x : Int) (hl : l.length ≤ 1000000) : EC Tryd.prog 13 [slL 1 (intC .u64) default l, .int .u64 x] [] fun r B => B = [] ∧ r = .bool (decide (x ∈ l)) := by
  refine EC.fin (EC.enter E_ok call_13 Tryd.func13 rfl (by simp [Tryd.ntmps13]) ?_)
  simp only [Tryd.ntmps13, Tryd.results13, bindA]
  (repeat (first | (refine EV_seq ?_; intro K hK) | refine EV_block ?_ | ((refine EV_region E_ok ?_; intro R hR fr; simp only [push_cast, bne_self_eq_false, simprocAttr]; (try (simp (disch := omega) only [i64_in', sub_elt, sub_elt0, getD_map2]; (try simp only [push_cast, bne_self_eq_false, simprocAttr])))); (repeat ((with_reducible apply And.intro); focus (first | (intro hA; exact ⟨hA, fun hB => (by rw [hA, hB]; rfl)⟩) | omega | decide | (simp; done) | (simp; omega)))); apply_assumption -exfalso) | refine EV_skip ?_ | refine EV_scope ?_ | refine EV_label ?_ | refine EV_exit ?_ | refine EV_ret ?_ | (simp only [thenP, blockP, scopeP, if_true, reduceIte, reduceCtorEq, if_false, Nat.reduceEqDiff]; apply_assumption -exfalso)))
  ((refine EV_region E_ok ?_; intro R hR fr; simp only [push_cast, bne_self_eq_false, simprocAttr]; (try (simp (disch := omega) only [i64_in', sub_elt, sub_elt0, getD_map2]; (try simp only [push_cast, bne_self_eq_false, simprocAttr])))); (repeat ((with_reducible apply And.intro); focus (first | (intro hA; exact ⟨hA, fun hB => (by rw [hA, hB]; rfl)⟩) | omega | decide | (simp; done) | (simp; omega)))))
  (refine EC.use (ec_index_u64 l x hl) ?_; (try simp only [hg]); refine EO_run E_ok _ 0 _ _ ?_; intro fr; simp only [push_cast, bne_self_eq_false, simprocAttr]; (try (simp (disch := omega) only [i64_in', sub_elt, sub_elt0, getD_map2]; (try simp only [push_cast, bne_self_eq_false, simprocAttr]))); (repeat ((with_reducible apply And.intro); focus (first | (intro hA; exact ⟨hA, fun hB => (by rw [hA, hB]; rfl)⟩) | omega | decide | (simp; done) | (simp; omega)))); (try apply_assumption -exfalso))
  (repeat (first | (refine EV_seq ?_; intro K hK) | refine EV_block ?_ | ((refine EV_region E_ok ?_; intro R hR fr; simp only [push_cast, bne_self_eq_false, simprocAttr]; (try (simp (disch := omega) only [i64_in', sub_elt, sub_elt0, getD_map2]; (try simp only [push_cast, bne_self_eq_false, simprocAttr])))); (repeat ((with_reducible apply And.intro); focus (first | (intro hA; exact ⟨hA, fun hB => (by rw [hA, hB]; rfl)⟩) | omega | decide | (simp; done) | (simp; omega)))); apply_assumption -exfalso) | refine EV_skip ?_ | refine EV_scope ?_ | refine EV_label ?_ | refine EV_exit ?_ | refine EV_ret ?_ | (simp only [thenP, blockP, scopeP, if_true, reduceIte, reduceCtorEq, if_false, Nat.reduceEqDiff]; apply_assumption -exfalso)))
  (simp only [push_cast, thenP, blockP, scopeP, retP, evR, evRes, evRes1, Nat.zero_lt_one, Nat.reduceEqDiff, Nat.reduceLT, Nat.reduceAdd, Nat.reduceLeDiff, reduceIte, reduceCtorEq]; simp only [frzKT, frzKLA, frzKA, frzKL, frzKC, frzT, frzLA, frzA, frzL, frzC, fromM, getD', List.getD_cons_zero, List.getD_cons_succ, Nat.zero_le, decide_true, and_true, true_and, and_self, push_cast]; refine SLe.of_eq ?_; simp only [idxI_ge])
def idP (l : List Int) (i : Nat) : Bool := !(l.getD i default == 0) && !decide (l.getD i default ∈ l.take i)
/-- All numbers of a list are identifiers, each once. -/
def idsOk (l : List Int) : Bool := (List.range l.length).all (idP l)
theorem idsOk_no {l : List Int} {i : Nat} (h : i < l.length) (hp : idP l i = false) : idsOk l = false := by
  simp only [idsOk, List.all_eq_false]
  exact ⟨i, by simpa using h, by simp [hp]⟩
end Go.Proofs.YtfmldmafigpblaaDoor
