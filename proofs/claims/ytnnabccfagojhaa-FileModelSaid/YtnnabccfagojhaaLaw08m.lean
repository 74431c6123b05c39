/- The walk of the law FileModel. -/
import Derived.Test.YtnnabccfagojhaaFileM
import Derived.Test.YtnnabccfagojhaaLiftZ
namespace Go.Proofs.Ytnnabccfagojhaa
open Go.Lift
set_option linter.unusedSimpArgs false
set_option linter.unusedVariables false
set_option maxRecDepth 10000
theorem fil_D (id : Int) (D : List Int) : (fil id D).Data = D := rfl
attribute [push_cast] fil_D
theorem small0 : smallO default := by
  refine ⟨⟨?_, ?_, ?_, ?_, ?_⟩, ?_, ?_, ?_, ?_, ?_, ?_, ?_⟩ <;> first | decide | (intro n hn; cases hn)
theorem fil_small {id : Int} {D : List Int} (h : D.length ≤ 1000000) : smallO (fil id D) :=
  ⟨small0.1, small0.2.1, h, small0.2.2.2.1, small0.2.2.2.2.1, small0.2.2.2.2.2.1, small0.2.2.2.2.2.2.1, small0.2.2.2.2.2.2.2⟩
theorem fil_ok {id : Int} {D : List Int} (hid : id ≠ 0) (hD : D.length ≤ 4096) : fileOk (fil id D) = true := by
  have : onlyB (fil id D) 8 = true := by rw [file_bare]; rfl
  simp [fileOk, this]
  simp [fil, hid]
  omega
theorem wrD_len (D : List Int) (k : Nat) (c : Int) : (wrD D k c).length = max D.length (k + 1) := by
  simp [wrD]; omega
theorem wrD_self (D : List Int) (k : Nat) (c : Int) : (wrD D k c).getD k default = c := by
  simp only [wrD, List.getD]
  rw [List.getElem?_set_self (by simp; omega)]
  rfl
theorem wrD_old {D : List Int} {k j : Nat} {c : Int} (h : j ≠ k) (hj : j < D.length) : (wrD D k c).getD j default = D.getD j default := by
  simp only [wrD, List.getD]
  rw [List.getElem?_set_ne (fun e => h e.symm), List.getElem?_append_left hj]
theorem wrD_gap {D : List Int} {k j : Nat} {c : Int} (h : j < k) (hj : D.length ≤ j) : (wrD D k c).getD j default = 0 := by
  simp only [wrD, List.getD]
  rw [List.getElem?_set_ne (by omega), List.getElem?_append_right hj, List.getElem?_replicate]
  split <;> rfl
theorem cf_Write {id c : Int} {D : List Int} {k : Nat} (hid : id ≠ 0) (hD : D.length ≤ 4096) (hk : k < 4096) : EC Try.prog 19 [.agg (fil id D).c, .int .i64 (k : Int), .int .u8 c] [] fun r B => B = [] ∧ r = .tup [.agg (fil id (wrD D k c)).c, .int .i64 0] := by
  have := ec_file_Write (fil id D) k c (fil_small (by omega))
  rwa [show fileWrite (fil id D) k c = (fil id (wrD D k c), 0) by
    simp only [fileWrite, fil_ok hid hD]
    rw [if_neg (by simp), if_neg (by simp), if_neg (by simp; omega)]
    rfl] at this
theorem cf_WriteF {id c : Int} {D : List Int} (hid : id ≠ 0) (hD : D.length ≤ 4096) : EC Try.prog 19 [.agg (fil id D).c, .int .i64 4096, .int .u8 c] [] fun r B => B = [] ∧ r = .tup [.agg (GObject.c default), .int .i64 9] := by
  have := ec_file_Write (fil id D) 4096 c (fil_small (by omega))
  rwa [show fileWrite (fil id D) 4096 c = (default, 9) by
    simp only [fileWrite, fil_ok hid hD]
    rw [if_neg (by simp), if_neg (by simp), if_pos (by simp)]] at this
theorem cf_Read {id : Int} {D : List Int} {k : Nat} (hid : id ≠ 0) (hD : D.length ≤ 4096) (hk : k < D.length) : EC Try.prog 20 [.agg (fil id D).c, .int .i64 (k : Int)] [] fun r B => B = [] ∧ r = .tup [.int .u8 (D.getD k default), .bool true, .int .i64 0] := by
  have := ec_file_Read (fil id D) k (fil_small (by omega))
  rwa [show fileRead (fil id D) k = (D.getD k default, true, 0) by
    simp only [fileRead, fil_ok hid hD]
    rw [if_neg (by simp), if_neg (by simp), if_neg (by simp [fil]; omega)]
    rfl] at this
theorem cf_ReadP {id : Int} {D : List Int} {k : Nat} (hid : id ≠ 0) (hD : D.length ≤ 4096) (hk : D.length ≤ k) : EC Try.prog 20 [.agg (fil id D).c, .int .i64 (k : Int)] [] fun r B => B = [] ∧ r = .tup [.int .u8 0, .bool false, .int .i64 0] := by
  have := ec_file_Read (fil id D) k (fil_small (by omega))
  rwa [show fileRead (fil id D) k = (0, false, 0) by
    simp only [fileRead, fil_ok hid hD]
    rw [if_neg (by simp), if_neg (by simp), if_pos (by simp [fil]; omega)]] at this
theorem cf_Valid {id : Int} {D : List Int} (hid : id ≠ 0) (hD : D.length ≤ 4096) : EC Try.prog 47 [.agg (fil id D).c] [] fun r B => B = [] ∧ r = .bool true := by
  have := ec_file_Valid (fil id D) (fil_small (by omega))
  rwa [fil_ok hid hD] at this
theorem ec_law08_sane : EC Try.prog 17 [] [] fun r B => B = [] ∧ r = .bool true := by
  have c1 := cf_Write (id := 3) (D := []) (k := 2) (c := 7) (by decide) (by decide) (by decide)
  have c2 := cf_Read (id := 3) (D := wrD [] 2 7) (k := 2) (by decide) (by decide) (by decide)
  have c3 := cf_ReadP (id := 3) (D := wrD [] 2 7) (k := 3) (by decide) (by decide) (by decide)
  have c4 := cf_Valid (id := 3) (D := wrD [] 2 7) (by decide) (by decide)
  have c5 := ec_file_ValidOpen { (default : GObject) with ID := 4, Kind := 4, Refs := 1, Target := 3 } small0
  rw [show openOk { (default : GObject) with ID := 4, Kind := 4, Refs := 1, Target := 3 } = true by rw [openOk, open_bare]; rfl] at c5
  have w : wrD [] 2 7 = [0, 0, 7] := rfl
  rw [w] at c1 c2 c3 c4
  refine EC.fin (EC.enter E_ok call_17 Try.func17 rfl (by simp [Try.ntmps17]) ?_)
  simp only [Try.ntmps17, Try.results17, bindA]
  (repeat (first | (refine EV_seq ?_; intro K hK) | refine EV_block ?_ | ((refine EV_region E_ok ?_; intro R hR fr; simp only [push_cast, bne_self_eq_false, simprocAttr]; (try (simp (disch := omega) only [i64_in', sub_elt, sub_elt0, getD_map2]; (try simp only [push_cast, bne_self_eq_false, simprocAttr])))); (repeat ((with_reducible apply And.intro); focus (first | (intro hA; exact ⟨hA, fun hB => (by rw [hA, hB]; rfl)⟩) | omega | decide | (simp; done) | (simp; omega)))); apply_assumption -exfalso) | refine EV_skip ?_ | refine EV_scope ?_ | refine EV_label ?_ | refine EV_exit ?_ | refine EV_ret ?_ | (simp only [thenP, blockP, scopeP, if_true, reduceIte, reduceCtorEq, if_false, Nat.reduceEqDiff]; apply_assumption -exfalso)))
  ((refine EV_region E_ok ?_; intro R hR fr; simp only [push_cast, bne_self_eq_false, simprocAttr]; (try (simp (disch := omega) only [i64_in', sub_elt, sub_elt0, getD_map2]; (try simp only [push_cast, bne_self_eq_false, simprocAttr])))); (repeat ((with_reducible apply And.intro); focus (first | (intro hA; exact ⟨hA, fun hB => (by rw [hA, hB]; rfl)⟩) | omega | decide | (simp; done) | (simp; omega)))))
  (refine EC.use (ec_file_New 3) ?_; (try simp only [hg]); refine EO_run E_ok _ 0 _ _ ?_; intro fr; simp only [push_cast, bne_self_eq_false, simprocAttr]; (try (simp (disch := omega) only [i64_in', sub_elt, sub_elt0, getD_map2]; (try simp only [push_cast, bne_self_eq_false, simprocAttr]))); (repeat ((with_reducible apply And.intro); focus (first | (intro hA; exact ⟨hA, fun hB => (by rw [hA, hB]; rfl)⟩) | omega | decide | (simp; done) | (simp; omega)))); (try apply_assumption -exfalso))
  (refine EC.use (c1) ?_; (try simp only [hg]); refine EO_run E_ok _ 0 _ _ ?_; intro fr; simp only [push_cast, bne_self_eq_false, simprocAttr]; (try (simp (disch := omega) only [i64_in', sub_elt, sub_elt0, getD_map2]; (try simp only [push_cast, bne_self_eq_false, simprocAttr]))); (repeat ((with_reducible apply And.intro); focus (first | (intro hA; exact ⟨hA, fun hB => (by rw [hA, hB]; rfl)⟩) | omega | decide | (simp; done) | (simp; omega)))); (try apply_assumption -exfalso))
  (repeat (first | (refine EV_seq ?_; intro K hK) | refine EV_block ?_ | ((refine EV_region E_ok ?_; intro R hR fr; simp only [push_cast, bne_self_eq_false, simprocAttr]; (try (simp (disch := omega) only [i64_in', sub_elt, sub_elt0, getD_map2]; (try simp only [push_cast, bne_self_eq_false, simprocAttr])))); (repeat ((with_reducible apply And.intro); focus (first | (intro hA; exact ⟨hA, fun hB => (by rw [hA, hB]; rfl)⟩) | omega | decide | (simp; done) | (simp; omega)))); apply_assumption -exfalso) | refine EV_skip ?_ | refine EV_scope ?_ | refine EV_label ?_ | refine EV_exit ?_ | refine EV_ret ?_ | (simp only [thenP, blockP, scopeP, if_true, reduceIte, reduceCtorEq, if_false, Nat.reduceEqDiff]; apply_assumption -exfalso)))
  ((refine EV_region E_ok ?_; intro R hR fr; simp only [push_cast, bne_self_eq_false, simprocAttr]; (try (simp (disch := omega) only [i64_in', sub_elt, sub_elt0, getD_map2]; (try simp only [push_cast, bne_self_eq_false, simprocAttr])))); (repeat ((with_reducible apply And.intro); focus (first | (intro hA; exact ⟨hA, fun hB => (by rw [hA, hB]; rfl)⟩) | omega | decide | (simp; done) | (simp; omega)))))
  (refine EC.use (c2) ?_; (try simp only [hg]); refine EO_run E_ok _ 0 _ _ ?_; intro fr; simp only [push_cast, bne_self_eq_false, simprocAttr]; (try (simp (disch := omega) only [i64_in', sub_elt, sub_elt0, getD_map2]; (try simp only [push_cast, bne_self_eq_false, simprocAttr]))); (repeat ((with_reducible apply And.intro); focus (first | (intro hA; exact ⟨hA, fun hB => (by rw [hA, hB]; rfl)⟩) | omega | decide | (simp; done) | (simp; omega)))); (try apply_assumption -exfalso))
  (repeat (first | (refine EV_seq ?_; intro K hK) | refine EV_block ?_ | ((refine EV_region E_ok ?_; intro R hR fr; simp only [push_cast, bne_self_eq_false, simprocAttr]; (try (simp (disch := omega) only [i64_in', sub_elt, sub_elt0, getD_map2]; (try simp only [push_cast, bne_self_eq_false, simprocAttr])))); (repeat ((with_reducible apply And.intro); focus (first | (intro hA; exact ⟨hA, fun hB => (by rw [hA, hB]; rfl)⟩) | omega | decide | (simp; done) | (simp; omega)))); apply_assumption -exfalso) | refine EV_skip ?_ | refine EV_scope ?_ | refine EV_label ?_ | refine EV_exit ?_ | refine EV_ret ?_ | (simp only [thenP, blockP, scopeP, if_true, reduceIte, reduceCtorEq, if_false, Nat.reduceEqDiff]; apply_assumption -exfalso)))
  ((refine EV_region E_ok ?_; intro R hR fr; simp only [push_cast, bne_self_eq_false, simprocAttr]; (try (simp (disch := omega) only [i64_in', sub_elt, sub_elt0, getD_map2]; (try simp only [push_cast, bne_self_eq_false, simprocAttr])))); (repeat ((with_reducible apply And.intro); focus (first | (intro hA; exact ⟨hA, fun hB => (by rw [hA, hB]; rfl)⟩) | omega | decide | (simp; done) | (simp; omega)))))
  (refine EC.use (c3) ?_; (try simp only [hg]); refine EO_run E_ok _ 0 _ _ ?_; intro fr; simp only [push_cast, bne_self_eq_false, simprocAttr]; (try (simp (disch := omega) only [i64_in', sub_elt, sub_elt0, getD_map2]; (try simp only [push_cast, bne_self_eq_false, simprocAttr]))); (repeat ((with_reducible apply And.intro); focus (first | (intro hA; exact ⟨hA, fun hB => (by rw [hA, hB]; rfl)⟩) | omega | decide | (simp; done) | (simp; omega)))); (try apply_assumption -exfalso))
  (repeat (first | (refine EV_seq ?_; intro K hK) | refine EV_block ?_ | ((refine EV_region E_ok ?_; intro R hR fr; simp only [push_cast, bne_self_eq_false, simprocAttr]; (try (simp (disch := omega) only [i64_in', sub_elt, sub_elt0, getD_map2]; (try simp only [push_cast, bne_self_eq_false, simprocAttr])))); (repeat ((with_reducible apply And.intro); focus (first | (intro hA; exact ⟨hA, fun hB => (by rw [hA, hB]; rfl)⟩) | omega | decide | (simp; done) | (simp; omega)))); apply_assumption -exfalso) | refine EV_skip ?_ | refine EV_scope ?_ | refine EV_label ?_ | refine EV_exit ?_ | refine EV_ret ?_ | (simp only [thenP, blockP, scopeP, if_true, reduceIte, reduceCtorEq, if_false, Nat.reduceEqDiff]; apply_assumption -exfalso)))
  ((refine EV_region E_ok ?_; intro R hR fr; simp only [push_cast, bne_self_eq_false, simprocAttr]; (try (simp (disch := omega) only [i64_in', sub_elt, sub_elt0, getD_map2]; (try simp only [push_cast, bne_self_eq_false, simprocAttr])))); (repeat ((with_reducible apply And.intro); focus (first | (intro hA; exact ⟨hA, fun hB => (by rw [hA, hB]; rfl)⟩) | omega | decide | (simp; done) | (simp; omega)))))
  (refine EC.use (c4) ?_; (try simp only [hg]); refine EO_run E_ok _ 0 _ _ ?_; intro fr; simp only [push_cast, bne_self_eq_false, simprocAttr]; (try (simp (disch := omega) only [i64_in', sub_elt, sub_elt0, getD_map2]; (try simp only [push_cast, bne_self_eq_false, simprocAttr]))); (repeat ((with_reducible apply And.intro); focus (first | (intro hA; exact ⟨hA, fun hB => (by rw [hA, hB]; rfl)⟩) | omega | decide | (simp; done) | (simp; omega)))); (try apply_assumption -exfalso))
  (refine EC.use (ec_file_Opened 4 3) ?_; (try simp only [hg]); refine EO_run E_ok _ 0 _ _ ?_; intro fr; simp only [push_cast, bne_self_eq_false, simprocAttr]; (try (simp (disch := omega) only [i64_in', sub_elt, sub_elt0, getD_map2]; (try simp only [push_cast, bne_self_eq_false, simprocAttr]))); (repeat ((with_reducible apply And.intro); focus (first | (intro hA; exact ⟨hA, fun hB => (by rw [hA, hB]; rfl)⟩) | omega | decide | (simp; done) | (simp; omega)))); (try apply_assumption -exfalso))
  (refine EC.use (c5) ?_; (try simp only [hg]); refine EO_run E_ok _ 0 _ _ ?_; intro fr; simp only [push_cast, bne_self_eq_false, simprocAttr]; (try (simp (disch := omega) only [i64_in', sub_elt, sub_elt0, getD_map2]; (try simp only [push_cast, bne_self_eq_false, simprocAttr]))); (repeat ((with_reducible apply And.intro); focus (first | (intro hA; exact ⟨hA, fun hB => (by rw [hA, hB]; rfl)⟩) | omega | decide | (simp; done) | (simp; omega)))); (try apply_assumption -exfalso))
  (repeat (first | (refine EV_seq ?_; intro K hK) | refine EV_block ?_ | ((refine EV_region E_ok ?_; intro R hR fr; simp only [push_cast, bne_self_eq_false, simprocAttr]; (try (simp (disch := omega) only [i64_in', sub_elt, sub_elt0, getD_map2]; (try simp only [push_cast, bne_self_eq_false, simprocAttr])))); (repeat ((with_reducible apply And.intro); focus (first | (intro hA; exact ⟨hA, fun hB => (by rw [hA, hB]; rfl)⟩) | omega | decide | (simp; done) | (simp; omega)))); apply_assumption -exfalso) | refine EV_skip ?_ | refine EV_scope ?_ | refine EV_label ?_ | refine EV_exit ?_ | refine EV_ret ?_ | (simp only [thenP, blockP, scopeP, if_true, reduceIte, reduceCtorEq, if_false, Nat.reduceEqDiff]; apply_assumption -exfalso)))
  (simp only [push_cast, thenP, blockP, scopeP, retP, evR, evRes, evRes1, Nat.zero_lt_one, Nat.reduceEqDiff, Nat.reduceLT, Nat.reduceAdd, Nat.reduceLeDiff, reduceIte, reduceCtorEq]; simp only [frzKT, frzKLA, frzKA, frzKL, frzKC, frzT, frzLA, frzA, frzL, frzC, fromM, getD', List.getD_cons_zero, List.getD_cons_succ, Nat.zero_le, decide_true, and_true, true_and, and_self, push_cast]; refine SLe.of_eq ?_; rfl)
theorem aget_aput (b a v : Int) : ∀ M : List (Int × Int), aget b (aput a v M) = if a = b then some v else aget b M
  | [] => by simp [aput, aget]
  | e :: r => by
    simp only [aput]
    split
    · rename_i h
      simp only [aget]
      split
      · rfl
      · rename_i h2; rw [if_neg (by omega)]
    · rename_i h
      simp only [aget, aget_aput b a v r]
      split
      · rename_i h2; rw [if_neg (by omega)]
      · rfl
/-- The bytes of a file are the last ones that were written. -/
def lastI (D : List Int) (M : List (Int × Int)) : Prop := ∀ j : Nat, (aget j M).getD 0 = D.getD j default
theorem last0 : lastI [] [] := fun j => by simp [aget]
theorem getD_end {D : List Int} {j : Nat} (h : D.length ≤ j) : D.getD j default = 0 := by
  rw [List.getD, List.getElem?_eq_none h]; rfl
theorem last_put {D : List Int} {M : List (Int × Int)} (h : lastI D M) (k : Nat) (c : Int) : lastI (wrD D k c) (aput k c M) := by
  intro j
  rw [aget_aput]
  by_cases e : j = k
  · subst e; rw [wrD_self, if_pos rfl]; rfl
  rw [if_neg (by omega), h j]
  by_cases hD : j < D.length
  · rw [wrD_old e hD]
  by_cases hk : j < k
  · rw [wrD_gap hk (by omega), getD_end (by omega)]
  · rw [getD_end (by omega), getD_end (by rw [wrD_len]; omega)]
theorem mem_getD {l : List Int} {i : Nat} (h : i < l.length) {Q : Int → Prop} (hq : ∀ y ∈ l, Q y) : Q (l.getD i default) := by
  rw [show l.getD i default = l[i] by simp [List.getD, h]]
  exact hq _ (List.getElem_mem h)
set_option maxHeartbeats 4000000 in
theorem ec_fileModel (l m : List Int) (hl : ∀ y ∈ l, 0 ≤ y ∧ y ≤ 255) (hll : l.length ≤ 9223372036854775807) (hml : m.length ≤ 9223372036854775807) : EC Try.prog 4 [slL 1 (intC .u8) default l, slL 1 (intC .u8) default m] [] fun r B => B = [] ∧ r = .bool true := by
  refine EC.fin (EC.enter E_ok call_4 Try.func4 rfl (by simp [Try.ntmps4]) ?_)
  simp only [Try.ntmps4, Try.results4, bindA]
  (repeat (first | (refine EV_seq ?_; intro K hK) | refine EV_block ?_ | ((refine EV_region E_ok ?_; intro R hR fr; simp only [push_cast, bne_self_eq_false, simprocAttr]; (try (simp (disch := omega) only [i64_in', sub_elt, sub_elt0, getD_map2]; (try simp only [push_cast, bne_self_eq_false, simprocAttr])))); (repeat ((with_reducible apply And.intro); focus (first | (intro hA; exact ⟨hA, fun hB => (by rw [hA, hB]; rfl)⟩) | omega | decide | (simp; done) | (simp; omega)))); apply_assumption -exfalso) | refine EV_skip ?_ | refine EV_scope ?_ | refine EV_label ?_ | refine EV_exit ?_ | refine EV_ret ?_ | (simp only [thenP, blockP, scopeP, if_true, reduceIte, reduceCtorEq, if_false, Nat.reduceEqDiff]; apply_assumption -exfalso)))
  ((refine EV_region E_ok ?_; intro R hR fr; simp only [push_cast, bne_self_eq_false, simprocAttr]; (try (simp (disch := omega) only [i64_in', sub_elt, sub_elt0, getD_map2]; (try simp only [push_cast, bne_self_eq_false, simprocAttr])))); (repeat ((with_reducible apply And.intro); focus (first | (intro hA; exact ⟨hA, fun hB => (by rw [hA, hB]; rfl)⟩) | omega | decide | (simp; done) | (simp; omega)))))
  (refine EC.use (ec_law08_sane) ?_; (try simp only [hg]); refine EO_run E_ok _ 0 _ _ ?_; intro fr; simp only [push_cast, bne_self_eq_false, simprocAttr]; (try (simp (disch := omega) only [i64_in', sub_elt, sub_elt0, getD_map2]; (try simp only [push_cast, bne_self_eq_false, simprocAttr]))); (repeat ((with_reducible apply And.intro); focus (first | (intro hA; exact ⟨hA, fun hB => (by rw [hA, hB]; rfl)⟩) | omega | decide | (simp; done) | (simp; omega)))); (try apply_assumption -exfalso))
  (repeat (first | (refine EV_seq ?_; intro K hK) | refine EV_block ?_ | ((refine EV_region E_ok ?_; intro R hR fr; simp only [push_cast, bne_self_eq_false, simprocAttr]; (try (simp (disch := omega) only [i64_in', sub_elt, sub_elt0, getD_map2]; (try simp only [push_cast, bne_self_eq_false, simprocAttr])))); (repeat ((with_reducible apply And.intro); focus (first | (intro hA; exact ⟨hA, fun hB => (by rw [hA, hB]; rfl)⟩) | omega | decide | (simp; done) | (simp; omega)))); apply_assumption -exfalso) | refine EV_skip ?_ | refine EV_scope ?_ | refine EV_label ?_ | refine EV_exit ?_ | refine EV_ret ?_ | (simp only [thenP, blockP, scopeP, if_true, reduceIte, reduceCtorEq, if_false, Nat.reduceEqDiff]; apply_assumption -exfalso)))
  (apply EV_cond; exact rfl; all_goals intro h)
  · simp at h
  clear h
  (repeat (first | (refine EV_seq ?_; intro K hK) | refine EV_block ?_ | ((refine EV_region E_ok ?_; intro R hR fr; simp only [push_cast, bne_self_eq_false, simprocAttr]; (try (simp (disch := omega) only [i64_in', sub_elt, sub_elt0, getD_map2]; (try simp only [push_cast, bne_self_eq_false, simprocAttr])))); (repeat ((with_reducible apply And.intro); focus (first | (intro hA; exact ⟨hA, fun hB => (by rw [hA, hB]; rfl)⟩) | omega | decide | (simp; done) | (simp; omega)))); apply_assumption -exfalso) | refine EV_skip ?_ | refine EV_scope ?_ | refine EV_label ?_ | refine EV_exit ?_ | refine EV_ret ?_ | (simp only [thenP, blockP, scopeP, if_true, reduceIte, reduceCtorEq, if_false, Nat.reduceEqDiff]; apply_assumption -exfalso)))
  ((refine EV_region E_ok ?_; intro R hR fr; simp only [push_cast, bne_self_eq_false, simprocAttr]; (try (simp (disch := omega) only [i64_in', sub_elt, sub_elt0, getD_map2]; (try simp only [push_cast, bne_self_eq_false, simprocAttr])))); (repeat ((with_reducible apply And.intro); focus (first | (intro hA; exact ⟨hA, fun hB => (by rw [hA, hB]; rfl)⟩) | omega | decide | (simp; done) | (simp; omega)))))
  (refine EC.use (ec_file_New 6) ?_; (try simp only [hg]); refine EO_run E_ok _ 0 _ _ ?_; intro fr; simp only [push_cast, bne_self_eq_false, simprocAttr]; (try (simp (disch := omega) only [i64_in', sub_elt, sub_elt0, getD_map2]; (try simp only [push_cast, bne_self_eq_false, simprocAttr]))); (repeat ((with_reducible apply And.intro); focus (first | (intro hA; exact ⟨hA, fun hB => (by rw [hA, hB]; rfl)⟩) | omega | decide | (simp; done) | (simp; omega)))); (try apply_assumption -exfalso))
  (repeat (first | (refine EV_seq ?_; intro K hK) | ((refine EV_region E_ok ?_; intro R hR fr; simp only [push_cast, bne_self_eq_false, simprocAttr]; (try (simp (disch := omega) only [i64_in', sub_elt, sub_elt0, getD_map2]; (try simp only [push_cast, bne_self_eq_false, simprocAttr])))); (repeat ((with_reducible apply And.intro); focus (first | (intro hA; exact ⟨hA, fun hB => (by rw [hA, hB]; rfl)⟩) | omega | decide | (simp; done) | (simp; omega)))); apply_assumption -exfalso) | refine EV_skip ?_ | refine EV_scope ?_ | refine EV_label ?_ | refine EV_exit ?_ | refine EV_ret ?_ | (simp only [thenP, blockP, scopeP, if_true, reduceIte, reduceCtorEq, if_false, Nat.reduceEqDiff]; apply_assumption -exfalso)))
  refine EV_block ?_
  refine EV_loopB [0, 1, 4, 5, 6] (fun s : Nat × List Int × List (Int × Int) => [(8, .int .i64 s.1), (7, .int .i64 s.2.1.length)]) (fun B s => updX (updX B 0 [(fil 6 s.2.1).c]) 1 (s.2.2.map (mC .i64 .u8))) (fun s => s.1 ≤ 40 ∧ s.2.1.length ≤ 256 ∧ lastI s.2.1 s.2.2) (fun s => 40 - s.1) (0, [], []) ⟨by simp, by simp, last0⟩ ⟨rfl, rfl, trivial⟩ (by rfl) ?_
  rintro ⟨i, D, M⟩ ⟨hi, hD, hM⟩
  dsimp only at hi hD hM
  simp only [updX, updH, setX, keepS, lkp, Nat.reduceEqDiff, if_true, if_false, reduceIte, List.cons_append, List.nil_append, List.take_succ_cons, List.take_zero, List.append_nil]
  (repeat (first | (refine EV_seq ?_; intro K hK) | refine EV_block ?_ | ((refine EV_region E_ok ?_; intro R hR fr; simp only [push_cast, bne_self_eq_false, simprocAttr]; (try (simp (disch := omega) only [i64_in', sub_elt, sub_elt0, getD_map2]; (try simp only [push_cast, bne_self_eq_false, simprocAttr])))); (repeat ((with_reducible apply And.intro); focus (first | (intro hA; exact ⟨hA, fun hB => (by rw [hA, hB]; rfl)⟩) | omega | decide | (simp; done) | (simp; omega)))); apply_assumption -exfalso) | refine EV_skip ?_ | refine EV_scope ?_ | refine EV_label ?_ | refine EV_exit ?_ | refine EV_ret ?_ | (simp only [thenP, blockP, scopeP, if_true, reduceIte, reduceCtorEq, if_false, Nat.reduceEqDiff]; apply_assumption -exfalso)))
  (apply EV_cond; exact rfl; all_goals intro h)
  · have hc : i < l.length ∧ i < m.length ∧ i < 40 := by simp at h; omega
    clear h
    obtain ⟨h1, h2, h3⟩ := hc
    obtain ⟨k, hk⟩ := Int.eq_ofNat_of_zero_le (mem_getD h1 hl).1
    have hk2 : k ≤ 255 := by have := (mem_getD h1 hl).2; omega
    have hc := cf_Write (id := 6) (D := D) (k := k) (c := m.getD i default) (by decide) (by omega) (by omega)
    have hW : (wrD D k (m.getD i default)).length = max D.length (k + 1) := wrD_len D k _
    have hMx : max2I (D.length : Int) ((k : Int) + 1) = ((wrD D k (m.getD i default)).length : Int) := by rw [hW]; simp only [max2I]; split <;> omega
    have hP := last_put hM k (m.getD i default)
    obtain ⟨c, hmc⟩ : ∃ c, m.getD i default = c := ⟨_, rfl⟩
    have hkw : IntKind.i64.wrap (k : Int) = k := i64_in' (by omega)
    rw [hmc] at hc hW hMx hP
    (repeat (first | (refine EV_seq ?_; intro K hK) | refine EV_block ?_ | ((refine EV_region E_ok ?_; intro R hR fr; simp only [push_cast, bne_self_eq_false, simprocAttr]; (try (simp (disch := omega) only [i64_in', sub_elt, sub_elt0, getD_map2]; (try simp only [push_cast, bne_self_eq_false, simprocAttr])))); (repeat ((with_reducible apply And.intro); focus (first | (intro hA; exact ⟨hA, fun hB => (by rw [hA, hB]; rfl)⟩) | omega | decide | (simp; done) | (simp; omega)))); apply_assumption -exfalso) | refine EV_skip ?_ | refine EV_scope ?_ | refine EV_label ?_ | refine EV_exit ?_ | refine EV_ret ?_ | (simp only [thenP, blockP, scopeP, if_true, reduceIte, reduceCtorEq, if_false, Nat.reduceEqDiff]; apply_assumption -exfalso)))
    (refine EV_draw (late := []) (ws := [false, false]) Try.follows ?_; intro R hR; refine ED_pre (m := 7) E_ok (by kernel_rfl) [0, 1, 2, 3, 4, 5, 6, 7, 8, 9] _ _ _ (by kernel_rfl) ?_; simp only [push_cast, bne_self_eq_false, simprocAttr]; (try (simp (disch := omega) only [i64_in', sub_elt, sub_elt0, getD_map2]; (try simp only [push_cast, bne_self_eq_false, simprocAttr]))); (repeat ((with_reducible apply And.intro); focus (first | (intro hA; exact ⟨hA, fun hB => (by rw [hA, hB]; rfl)⟩) | omega | decide | (simp; done) | (simp; omega)))))
    (refine ED_two (i := 10) (j := 14) (by kernel_rfl) (EDi_step E_ok ?_) (EDi_step E_ok ?_) <;> simp only [push_cast, bne_self_eq_false, simprocAttr])
    simp only [hk, hmc, hkw]
    (refine EC.use (hc) ?_; refine ED_run E_ok (by kernel_rfl) false [11, 12, 13, 14, 15, 16] _ _ _ (by kernel_rfl) (by kernel_rfl) ?_; simp only [push_cast, bne_self_eq_false, simprocAttr]; (repeat intro rh); (try (simp (disch := omega) only [i64_in', sub_elt, sub_elt0, getD_map2]; (try simp only [push_cast, bne_self_eq_false, simprocAttr]))); (repeat ((with_reducible apply And.intro); focus (first | (intro hA; exact ⟨hA, fun hB => (by rw [hA, hB]; rfl)⟩) | omega | decide | (simp; done) | (simp; omega)))); (try apply_assumption -exfalso))
    rotate_left 1
    simp only [hk, hmc, hkw]
    (intro rh; (repeat ((with_reducible apply And.intro); focus (first | (intro hA; exact ⟨hA, fun hB => (by rw [hA, hB]; rfl)⟩) | omega | decide | (simp; done) | (simp; omega)))); refine ED_run E_ok (by kernel_rfl) false [10, 11, 12, 13, 15, 16] _ _ _ (by kernel_rfl) (by kernel_rfl) ?_; simp only [push_cast, bne_self_eq_false, simprocAttr]; (repeat ((with_reducible apply And.intro); focus (first | (intro hA; exact ⟨hA, fun hB => (by rw [hA, hB]; rfl)⟩) | omega | decide | (simp; done) | (simp; omega)))))
    (refine EC.use (hc) ?_; refine ED_run E_ok (by kernel_rfl) false [11, 12, 13, 15, 16] _ _ _ (by kernel_rfl) (by kernel_rfl) ?_; simp only [push_cast, bne_self_eq_false, simprocAttr]; (repeat intro rh); (try (simp (disch := omega) only [i64_in', sub_elt, sub_elt0, getD_map2]; (try simp only [push_cast, bne_self_eq_false, simprocAttr]))); (repeat ((with_reducible apply And.intro); focus (first | (intro hA; exact ⟨hA, fun hB => (by rw [hA, hB]; rfl)⟩) | omega | decide | (simp; done) | (simp; omega)))); (try apply_assumption -exfalso))
    all_goals
      (repeat (first | (refine EV_seq ?_; intro K hK) | refine EV_block ?_ | ((refine EV_region E_ok ?_; intro R hR fr; simp only [push_cast, bne_self_eq_false, simprocAttr]; (try (simp (disch := omega) only [i64_in', sub_elt, sub_elt0, getD_map2]; (try simp only [push_cast, bne_self_eq_false, simprocAttr])))); (repeat ((with_reducible apply And.intro); focus (first | (intro hA; exact ⟨hA, fun hB => (by rw [hA, hB]; rfl)⟩) | omega | decide | (simp; done) | (simp; omega)))); apply_assumption -exfalso) | refine EV_skip ?_ | refine EV_scope ?_ | refine EV_label ?_ | refine EV_exit ?_ | refine EV_ret ?_ | (simp only [thenP, blockP, scopeP, if_true, reduceIte, reduceCtorEq, if_false, Nat.reduceEqDiff]; apply_assumption -exfalso)))
      (apply EV_cond; exact rfl; all_goals intro h)
      · simp at h
      clear h
      (repeat (first | (refine EV_seq ?_; intro K hK) | refine EV_block ?_ | ((refine EV_region E_ok ?_; intro R hR fr; simp only [push_cast, bne_self_eq_false, simprocAttr]; (try (simp (disch := omega) only [i64_in', sub_elt, sub_elt0, getD_map2]; (try simp only [push_cast, bne_self_eq_false, simprocAttr])))); (repeat ((with_reducible apply And.intro); focus (first | (intro hA; exact ⟨hA, fun hB => (by rw [hA, hB]; rfl)⟩) | omega | decide | (simp; done) | (simp; omega)))); apply_assumption -exfalso) | refine EV_skip ?_ | refine EV_scope ?_ | refine EV_label ?_ | refine EV_exit ?_ | refine EV_ret ?_ | (simp only [thenP, blockP, scopeP, if_true, reduceIte, reduceCtorEq, if_false, Nat.reduceEqDiff]; apply_assumption -exfalso)))
      (refine EV_drawn E_ok [] [false, true] [0, 1, 2, 3, 4, 5, 6, 7, 8, 9, 10] Try.follows (by kernel_rfl) (by kernel_rfl) (by kernel_rfl) ?_; intro R hR; simp only [push_cast, bne_self_eq_false, simprocAttr])
      simp only [hk, hmc, hkw]
      refine ⟨by omega, by omega, fun _ => ?_⟩
      (try apply_assumption -exfalso)
      (repeat (first | (refine EV_seq ?_; intro K hK) | ((refine EV_region E_ok ?_; intro R hR fr; simp only [push_cast, bne_self_eq_false, simprocAttr]; (try (simp (disch := omega) only [i64_in', sub_elt, sub_elt0, getD_map2]; (try simp only [push_cast, bne_self_eq_false, simprocAttr])))); (repeat ((with_reducible apply And.intro); focus (first | (intro hA; exact ⟨hA, fun hB => (by rw [hA, hB]; rfl)⟩) | omega | decide | (simp; done) | (simp; omega)))); apply_assumption -exfalso) | refine EV_skip ?_ | refine EV_scope ?_ | refine EV_label ?_ | refine EV_exit ?_ | refine EV_ret ?_ | (simp only [thenP, blockP, scopeP, if_true, reduceIte, reduceCtorEq, if_false, Nat.reduceEqDiff]; apply_assumption -exfalso)))
      simp only [hk, hMx]
      (simp only [thenP, blockP, scopeP, if_true, reduceIte, reduceCtorEq, if_false]; refine ⟨(i + 1, wrD D k c, aput (k : Int) c M), ?_, ?_, (by first | (simp [wkS, lkp, List.take_length]; done) | repeat (first | exact trivial | refine And.intro (by first | rfl | (simp only [lkp, push_cast, bne_self_eq_false, simprocAttr]; done) | (simp [lkp]; done)) ?_)), (by first | (simp only [push_cast, List.take_length, List.take_append_of_le_length, bne_self_eq_false, simprocAttr]; done) | (simp [updX, updH, setX]; done))⟩)
      · exact ⟨by dsimp only; omega, by dsimp only; omega, hP⟩
      · dsimp only; omega
  clear h
  (repeat (first | (refine EV_seq ?_; intro K hK) | refine EV_block ?_ | ((refine EV_region E_ok ?_; intro R hR fr; simp only [push_cast, bne_self_eq_false, simprocAttr]; (try (simp (disch := omega) only [i64_in', sub_elt, sub_elt0, getD_map2]; (try simp only [push_cast, bne_self_eq_false, simprocAttr])))); (repeat ((with_reducible apply And.intro); focus (first | (intro hA; exact ⟨hA, fun hB => (by rw [hA, hB]; rfl)⟩) | omega | decide | (simp; done) | (simp; omega)))); apply_assumption -exfalso) | refine EV_skip ?_ | refine EV_scope ?_ | refine EV_label ?_ | refine EV_exit ?_ | refine EV_ret ?_ | (simp only [thenP, blockP, scopeP, if_true, reduceIte, reduceCtorEq, if_false, Nat.reduceEqDiff]; apply_assumption -exfalso)))
  refine EV_loopL [4, 5, 6, 7] (fun j : Nat => [(11, .int .i64 j)]) (fun j => j ≤ 256) (fun j => 256 - j) 0 (Nat.zero_le _) ⟨rfl, trivial⟩ ?_
  rintro j hj
  simp only [updX, updH, setX, keepS, lkp, Nat.reduceEqDiff, if_true, if_false, reduceIte, List.cons_append, List.nil_append, List.take_succ_cons, List.take_zero, List.append_nil]
  (repeat (first | (refine EV_seq ?_; intro K hK) | refine EV_block ?_ | ((refine EV_region E_ok ?_; intro R hR fr; simp only [push_cast, bne_self_eq_false, simprocAttr]; (try (simp (disch := omega) only [i64_in', sub_elt, sub_elt0, getD_map2]; (try simp only [push_cast, bne_self_eq_false, simprocAttr])))); (repeat ((with_reducible apply And.intro); focus (first | (intro hA; exact ⟨hA, fun hB => (by rw [hA, hB]; rfl)⟩) | omega | decide | (simp; done) | (simp; omega)))); apply_assumption -exfalso) | refine EV_skip ?_ | refine EV_scope ?_ | refine EV_label ?_ | refine EV_exit ?_ | refine EV_ret ?_ | (simp only [thenP, blockP, scopeP, if_true, reduceIte, reduceCtorEq, if_false, Nat.reduceEqDiff]; apply_assumption -exfalso)))
  (apply EV_cond; exact rfl; all_goals intro h)
  · have hlj : j < 256 := by simp at h; omega
    clear h
    have hjM := hM j
    (repeat (first | (refine EV_seq ?_; intro K hK) | refine EV_block ?_ | ((refine EV_region E_ok ?_; intro R hR fr; simp only [push_cast, bne_self_eq_false, simprocAttr]; (try (simp (disch := omega) only [i64_in', sub_elt, sub_elt0, getD_map2]; (try simp only [push_cast, bne_self_eq_false, simprocAttr])))); (repeat ((with_reducible apply And.intro); focus (first | (intro hA; exact ⟨hA, fun hB => (by rw [hA, hB]; rfl)⟩) | omega | decide | (simp; done) | (simp; omega)))); apply_assumption -exfalso) | refine EV_skip ?_ | refine EV_scope ?_ | refine EV_label ?_ | refine EV_exit ?_ | refine EV_ret ?_ | (simp only [thenP, blockP, scopeP, if_true, reduceIte, reduceCtorEq, if_false, Nat.reduceEqDiff]; apply_assumption -exfalso)))
    ((refine EV_region E_ok ?_; intro R hR fr; simp only [push_cast, bne_self_eq_false, simprocAttr]; (try (simp (disch := omega) only [i64_in', sub_elt, sub_elt0, getD_map2]; (try simp only [push_cast, bne_self_eq_false, simprocAttr])))); (repeat ((with_reducible apply And.intro); focus (first | (intro hA; exact ⟨hA, fun hB => (by rw [hA, hB]; rfl)⟩) | omega | decide | (simp; done) | (simp; omega)))))
    by_cases hjD : j < D.length
    · have c1 := cf_Read (id := 6) (D := D) (k := j) (by decide) (by omega) hjD
      rw [← hjM] at c1
      (refine EC.use (c1) ?_; (try simp only [hg]); refine EO_run E_ok _ 0 _ _ ?_; intro fr; simp only [push_cast, bne_self_eq_false, simprocAttr]; (try (simp (disch := omega) only [i64_in', sub_elt, sub_elt0, getD_map2]; (try simp only [push_cast, bne_self_eq_false, simprocAttr]))); (repeat ((with_reducible apply And.intro); focus (first | (intro hA; exact ⟨hA, fun hB => (by rw [hA, hB]; rfl)⟩) | omega | decide | (simp; done) | (simp; omega)))); (try apply_assumption -exfalso))
      (repeat (first | (refine EV_seq ?_; intro K hK) | refine EV_block ?_ | ((refine EV_region E_ok ?_; intro R hR fr; simp only [push_cast, bne_self_eq_false, simprocAttr]; (try (simp (disch := omega) only [i64_in', sub_elt, sub_elt0, getD_map2]; (try simp only [push_cast, bne_self_eq_false, simprocAttr])))); (repeat ((with_reducible apply And.intro); focus (first | (intro hA; exact ⟨hA, fun hB => (by rw [hA, hB]; rfl)⟩) | omega | decide | (simp; done) | (simp; omega)))); apply_assumption -exfalso) | refine EV_skip ?_ | refine EV_scope ?_ | refine EV_label ?_ | refine EV_exit ?_ | refine EV_ret ?_ | (simp only [thenP, blockP, scopeP, if_true, reduceIte, reduceCtorEq, if_false, Nat.reduceEqDiff]; apply_assumption -exfalso)))
      (apply EV_cond; exact rfl; all_goals intro h)
      · exfalso; simp at h; omega
      clear h
      (repeat (first | (refine EV_seq ?_; intro K hK) | refine EV_block ?_ | ((refine EV_region E_ok ?_; intro R hR fr; simp only [push_cast, bne_self_eq_false, simprocAttr]; (try (simp (disch := omega) only [i64_in', sub_elt, sub_elt0, getD_map2]; (try simp only [push_cast, bne_self_eq_false, simprocAttr])))); (repeat ((with_reducible apply And.intro); focus (first | (intro hA; exact ⟨hA, fun hB => (by rw [hA, hB]; rfl)⟩) | omega | decide | (simp; done) | (simp; omega)))); apply_assumption -exfalso) | refine EV_skip ?_ | refine EV_scope ?_ | refine EV_label ?_ | refine EV_exit ?_ | refine EV_ret ?_ | (simp only [thenP, blockP, scopeP, if_true, reduceIte, reduceCtorEq, if_false, Nat.reduceEqDiff]; apply_assumption -exfalso)))
      (simp only [thenP, blockP, scopeP, if_true, reduceIte, reduceCtorEq, if_false]; refine ⟨j + 1, ?_, ?_, (by first | (simp [wkS, lkp, List.take_length]; done) | repeat (first | exact trivial | refine And.intro (by first | rfl | (simp only [lkp, push_cast, bne_self_eq_false, simprocAttr]; done) | (simp [lkp]; done)) ?_)), (by first | (simp only [push_cast, List.take_length, List.take_append_of_le_length, bne_self_eq_false, simprocAttr]; done) | (simp [updX, updH, setX]; done))⟩)
      · omega
      · omega
    · have c1 := cf_ReadP (id := 6) (D := D) (k := j) (by decide) (by omega) (by omega)
      rw [getD_end (by omega)] at hjM
      (refine EC.use (c1) ?_; (try simp only [hg]); refine EO_run E_ok _ 0 _ _ ?_; intro fr; simp only [push_cast, bne_self_eq_false, simprocAttr]; (try (simp (disch := omega) only [i64_in', sub_elt, sub_elt0, getD_map2]; (try simp only [push_cast, bne_self_eq_false, simprocAttr]))); (repeat ((with_reducible apply And.intro); focus (first | (intro hA; exact ⟨hA, fun hB => (by rw [hA, hB]; rfl)⟩) | omega | decide | (simp; done) | (simp; omega)))); (try apply_assumption -exfalso))
      (repeat (first | (refine EV_seq ?_; intro K hK) | refine EV_block ?_ | ((refine EV_region E_ok ?_; intro R hR fr; simp only [push_cast, bne_self_eq_false, simprocAttr]; (try (simp (disch := omega) only [i64_in', sub_elt, sub_elt0, getD_map2]; (try simp only [push_cast, bne_self_eq_false, simprocAttr])))); (repeat ((with_reducible apply And.intro); focus (first | (intro hA; exact ⟨hA, fun hB => (by rw [hA, hB]; rfl)⟩) | omega | decide | (simp; done) | (simp; omega)))); apply_assumption -exfalso) | refine EV_skip ?_ | refine EV_scope ?_ | refine EV_label ?_ | refine EV_exit ?_ | refine EV_ret ?_ | (simp only [thenP, blockP, scopeP, if_true, reduceIte, reduceCtorEq, if_false, Nat.reduceEqDiff]; apply_assumption -exfalso)))
      (apply EV_cond; exact rfl; all_goals intro h)
      · exfalso; simp [hjM] at h; omega
      clear h
      (repeat (first | (refine EV_seq ?_; intro K hK) | refine EV_block ?_ | ((refine EV_region E_ok ?_; intro R hR fr; simp only [push_cast, bne_self_eq_false, simprocAttr]; (try (simp (disch := omega) only [i64_in', sub_elt, sub_elt0, getD_map2]; (try simp only [push_cast, bne_self_eq_false, simprocAttr])))); (repeat ((with_reducible apply And.intro); focus (first | (intro hA; exact ⟨hA, fun hB => (by rw [hA, hB]; rfl)⟩) | omega | decide | (simp; done) | (simp; omega)))); apply_assumption -exfalso) | refine EV_skip ?_ | refine EV_scope ?_ | refine EV_label ?_ | refine EV_exit ?_ | refine EV_ret ?_ | (simp only [thenP, blockP, scopeP, if_true, reduceIte, reduceCtorEq, if_false, Nat.reduceEqDiff]; apply_assumption -exfalso)))
      (simp only [thenP, blockP, scopeP, if_true, reduceIte, reduceCtorEq, if_false]; refine ⟨j + 1, ?_, ?_, (by first | (simp [wkS, lkp, List.take_length]; done) | repeat (first | exact trivial | refine And.intro (by first | rfl | (simp only [lkp, push_cast, bne_self_eq_false, simprocAttr]; done) | (simp [lkp]; done)) ?_)), (by first | (simp only [push_cast, List.take_length, List.take_append_of_le_length, bne_self_eq_false, simprocAttr]; done) | (simp [updX, updH, setX]; done))⟩)
      · omega
      · omega
  · clear h
    have c1 := cf_WriteF (id := 6) (c := 1) (D := D) (by decide) (by omega)
    have c2 := cf_Write (id := 6) (c := 1) (D := D) (k := 4095) (by decide) (by omega) (by omega)
    have hW : (wrD D 4095 1).length = 4096 := by rw [wrD_len]; omega
    (repeat (first | (refine EV_seq ?_; intro K hK) | refine EV_block ?_ | ((refine EV_region E_ok ?_; intro R hR fr; simp only [push_cast, bne_self_eq_false, simprocAttr]; (try (simp (disch := omega) only [i64_in', sub_elt, sub_elt0, getD_map2]; (try simp only [push_cast, bne_self_eq_false, simprocAttr])))); (repeat ((with_reducible apply And.intro); focus (first | (intro hA; exact ⟨hA, fun hB => (by rw [hA, hB]; rfl)⟩) | omega | decide | (simp; done) | (simp; omega)))); apply_assumption -exfalso) | refine EV_skip ?_ | refine EV_scope ?_ | refine EV_label ?_ | refine EV_exit ?_ | refine EV_ret ?_ | (simp only [thenP, blockP, scopeP, if_true, reduceIte, reduceCtorEq, if_false, Nat.reduceEqDiff]; apply_assumption -exfalso)))
    ((refine EV_region E_ok ?_; intro R hR fr; simp only [push_cast, bne_self_eq_false, simprocAttr]; (try (simp (disch := omega) only [i64_in', sub_elt, sub_elt0, getD_map2]; (try simp only [push_cast, bne_self_eq_false, simprocAttr])))); (repeat ((with_reducible apply And.intro); focus (first | (intro hA; exact ⟨hA, fun hB => (by rw [hA, hB]; rfl)⟩) | omega | decide | (simp; done) | (simp; omega)))))
    (refine EC.use (c1) ?_; (try simp only [hg]); refine EO_run E_ok _ 0 _ _ ?_; intro fr; simp only [push_cast, bne_self_eq_false, simprocAttr]; (try (simp (disch := omega) only [i64_in', sub_elt, sub_elt0, getD_map2]; (try simp only [push_cast, bne_self_eq_false, simprocAttr]))); (repeat ((with_reducible apply And.intro); focus (first | (intro hA; exact ⟨hA, fun hB => (by rw [hA, hB]; rfl)⟩) | omega | decide | (simp; done) | (simp; omega)))); (try apply_assumption -exfalso))
    (repeat (first | (refine EV_seq ?_; intro K hK) | refine EV_block ?_ | ((refine EV_region E_ok ?_; intro R hR fr; simp only [push_cast, bne_self_eq_false, simprocAttr]; (try (simp (disch := omega) only [i64_in', sub_elt, sub_elt0, getD_map2]; (try simp only [push_cast, bne_self_eq_false, simprocAttr])))); (repeat ((with_reducible apply And.intro); focus (first | (intro hA; exact ⟨hA, fun hB => (by rw [hA, hB]; rfl)⟩) | omega | decide | (simp; done) | (simp; omega)))); apply_assumption -exfalso) | refine EV_skip ?_ | refine EV_scope ?_ | refine EV_label ?_ | refine EV_exit ?_ | refine EV_ret ?_ | (simp only [thenP, blockP, scopeP, if_true, reduceIte, reduceCtorEq, if_false, Nat.reduceEqDiff]; apply_assumption -exfalso)))
    ((refine EV_region E_ok ?_; intro R hR fr; simp only [push_cast, bne_self_eq_false, simprocAttr]; (try (simp (disch := omega) only [i64_in', sub_elt, sub_elt0, getD_map2]; (try simp only [push_cast, bne_self_eq_false, simprocAttr])))); (repeat ((with_reducible apply And.intro); focus (first | (intro hA; exact ⟨hA, fun hB => (by rw [hA, hB]; rfl)⟩) | omega | decide | (simp; done) | (simp; omega)))))
    (refine EC.use (c2) ?_; (try simp only [hg]); refine EO_run E_ok _ 0 _ _ ?_; intro fr; simp only [push_cast, bne_self_eq_false, simprocAttr]; (try (simp (disch := omega) only [i64_in', sub_elt, sub_elt0, getD_map2]; (try simp only [push_cast, bne_self_eq_false, simprocAttr]))); (repeat ((with_reducible apply And.intro); focus (first | (intro hA; exact ⟨hA, fun hB => (by rw [hA, hB]; rfl)⟩) | omega | decide | (simp; done) | (simp; omega)))); (try apply_assumption -exfalso))
    (repeat (first | (refine EV_seq ?_; intro K hK) | refine EV_block ?_ | ((refine EV_region E_ok ?_; intro R hR fr; simp only [push_cast, bne_self_eq_false, simprocAttr]; (try (simp (disch := omega) only [i64_in', sub_elt, sub_elt0, getD_map2]; (try simp only [push_cast, bne_self_eq_false, simprocAttr])))); (repeat ((with_reducible apply And.intro); focus (first | (intro hA; exact ⟨hA, fun hB => (by rw [hA, hB]; rfl)⟩) | omega | decide | (simp; done) | (simp; omega)))); apply_assumption -exfalso) | refine EV_skip ?_ | refine EV_scope ?_ | refine EV_label ?_ | refine EV_exit ?_ | refine EV_ret ?_ | (simp only [thenP, blockP, scopeP, if_true, reduceIte, reduceCtorEq, if_false, Nat.reduceEqDiff]; apply_assumption -exfalso)))
    (simp only [push_cast, thenP, blockP, scopeP, retP, evR, evRes, evRes1, Nat.zero_lt_one, Nat.reduceEqDiff, Nat.reduceLT, Nat.reduceAdd, Nat.reduceLeDiff, reduceIte, reduceCtorEq]; simp only [frzKT, frzKLA, frzKA, frzKL, frzKC, frzT, frzLA, frzA, frzL, frzC, fromM, getD', List.getD_cons_zero, List.getD_cons_succ, Nat.zero_le, decide_true, and_true, true_and, and_self, push_cast]; refine SLe.of_eq ?_; (simp [hW]))
end Go.Proofs.Ytnnabccfagojhaa
