-- SG
/- TableLeast: the plain law and the walk. -/
import Derived.Test.YtbahpkjfgoeohaaSLaw10e
namespace Go.Proofs.Ytbahpkjfgoeohaa
open Go.Lift
set_option linter.unusedSimpArgs false
set_option linter.unusedVariables false
set_option maxRecDepth 10000
def A16b.l (x : A16b) : List Bool := [x.x0, x.x1, x.x2, x.x3, x.x4, x.x5, x.x6, x.x7, x.x8, x.x9, x.x10, x.x11, x.x12, x.x13, x.x14, x.x15]
def A16b.at (x : A16b) (k : Nat) : Bool := x.l.getD k false
def A16b.put (x : A16b) (k : Nat) (b : Bool) : A16b := ⟨if k = 0 then b else x.x0, if k = 1 then b else x.x1, if k = 2 then b else x.x2, if k = 3 then b else x.x3, if k = 4 then b else x.x4, if k = 5 then b else x.x5, if k = 6 then b else x.x6, if k = 7 then b else x.x7, if k = 8 then b else x.x8, if k = 9 then b else x.x9, if k = 10 then b else x.x10, if k = 11 then b else x.x11, if k = 12 then b else x.x12, if k = 13 then b else x.x13, if k = 14 then b else x.x14, if k = 15 then b else x.x15⟩
theorem lt16 {k : Nat} (h : k < 16) : k = 0 ∨ k = 1 ∨ k = 2 ∨ k = 3 ∨ k = 4 ∨ k = 5 ∨ k = 6 ∨ k = 7 ∨ k = 8 ∨ k = 9 ∨ k = 10 ∨ k = 11 ∨ k = 12 ∨ k = 13 ∨ k = 14 ∨ k = 15 := by omega
theorem A16b.g (x : A16b) {k : Nat} (d : SV) (h : k < 16) : x.c.getD k d = .bool (x.at k) := by
  rcases lt16 h with rfl | rfl | rfl | rfl | rfl | rfl | rfl | rfl | rfl | rfl | rfl | rfl | rfl | rfl | rfl | rfl <;> rfl
theorem A16b.p (x : A16b) {k : Nat} (b : Bool) (h : k < 16) : putL x.c k [.bool b] = (x.put k b).c := by
  rcases lt16 h with rfl | rfl | rfl | rfl | rfl | rfl | rfl | rfl | rfl | rfl | rfl | rfl | rfl | rfl | rfl | rfl <;> rfl
theorem A16b.at_put (x : A16b) {k j : Nat} (b : Bool) (h : k < 16) (hj : j < 16) : (x.put k b).at j = if j = k then b else x.at j := by
  rcases lt16 hj with rfl | rfl | rfl | rfl | rfl | rfl | rfl | rfl | rfl | rfl | rfl | rfl | rfl | rfl | rfl | rfl <;> simp [A16b.put, A16b.at, A16b.l, eq_comm]
theorem A16b.at_def {j : Nat} (hj : j < 16) : (default : A16b).at j = false := by
  rcases lt16 hj with rfl | rfl | rfl | rfl | rfl | rfl | rfl | rfl | rfl | rfl | rfl | rfl | rfl | rfl | rfl | rfl <;> rfl
theorem stripN_spec (l : List GSlot) : ∀ m, stripN l m ≤ m ∧ (stripN l m = 0 ∨ ((l.getD (stripN l m - 1) default).Kind == 0) = false) ∧ ∀ j, stripN l m ≤ j → j < m → ((l.getD j default).Kind == 0) = true := by
  intro m
  induction m with
  | zero => exact ⟨Nat.le_refl _, .inl rfl, fun j _ h => absurd h (Nat.not_lt_zero _)⟩
  | succ m ih =>
    rw [stripN]
    by_cases h : ((l.getD m default).Kind == 0) = true
    · rw [if_pos h]
      refine ⟨Nat.le_succ_of_le ih.1, ih.2.1, fun j h1 h2 => ?_⟩
      rcases Nat.lt_or_eq_of_le (Nat.le_of_lt_succ h2) with a | a
      · exact ih.2.2 j h1 a
      · rw [a]; exact h
    · rw [if_neg h]
      refine ⟨Nat.le_refl _, .inr (by rw [Nat.add_sub_cancel]; simpa using h), fun j h1 h2 => by omega⟩
theorem strip_get (l : List GSlot) (j : Nat) : (((strip l).getD j default).Kind == 0) = ((l.getD j default).Kind == 0) := by
  obtain ⟨h1, h2, h3⟩ := stripN_spec l l.length
  rcases Nat.lt_or_ge j (stripN l l.length) with a | a
  · unfold strip
    simp only [List.getD]
    rw [List.getElem?_take_of_lt a]
  · have e1 : (strip l).getD j default = default := getD_over (by unfold strip; simp; omega)
    rw [e1]
    rcases Nat.lt_or_ge j l.length with b | b
    · rw [h3 j a b]; rfl
    · rw [getD_over b]
theorem strip_ok {l : List GSlot} (h : l.all slOk = true) (hl : l.length ≤ 16) : tbOk (strip l) = true := by
  obtain ⟨h1, h2, h3⟩ := stripN_spec l l.length
  have ha : (strip l).all slOk = true := List.all_eq_true.2 fun x hx => List.all_eq_true.1 h x (List.mem_of_mem_take hx)
  have hlen : (strip l).length = stripN l l.length := by unfold strip; simp; omega
  have hz : (((strip l).length : Int) == 0 || ((strip l).getD ((strip l).length - 1) default).Kind != 0) = true := by
    rcases h2 with e | e
    · rw [hlen, e]; rfl
    · rw [bne, strip_get, hlen, e]; simp
  rw [tbOk, ha, decide_eq_true (by omega), hz]; rfl
theorem set_all {l : List GSlot} {k : Nat} (h : l.all slOk = true) : (l.set k default).all slOk = true := by
  rw [List.all_eq_true]
  intro x hx
  rcases List.mem_or_eq_of_mem_set hx with h1 | h1
  · exact List.all_eq_true.1 h x h1
  · rw [h1]; exact slOk_default
theorem clear_no {t : List GSlot} {k : Nat} (ht : tbOk t = true) (h : ((t.getD k default).Kind == 0) = true) : tbClear t k = ([], 6) := by
  rw [tbClear, ht, if_neg (by simp), tbGet' _ (by omega), Int.toNat_natCast, if_pos h]; first | done | rfl
theorem clear_yes {t : List GSlot} {k : Nat} (ht : tbOk t = true) (h : ((t.getD k default).Kind == 0) = false) : tbClear t k = (strip (t.set k default), 0) := by
  rw [tbClear, ht, if_neg (by simp), tbGet' _ (by omega), Int.toNat_natCast, if_neg (by rw [h]; simp)]; first | done | rfl
theorem clear_inv {t : List GSlot} {u : A16b} {k : Nat} (ht : tbOk t = true) (hk : k < 16) (hkt : ((t.getD k default).Kind == 0) = false) (hu : ∀ j, j < 16 → u.at j = !((t.getD j default).Kind == 0)) :
    tbOk (strip (t.set k default)) = true ∧ ∀ j, j < 16 → (u.put k false).at j = !(((strip (t.set k default)).getD j default).Kind == 0) := by
  obtain ⟨h16, hall⟩ := tbOk_len ht
  refine ⟨strip_ok (set_all hall) (by simp; omega), fun j hj => ?_⟩
  have hkl : k < t.length := by
    rcases Nat.lt_or_ge k t.length with a | a
    · exact a
    · rw [getD_over a] at hkt; exact absurd hkt (by decide)
  rw [A16b.at_put u false hk hj, strip_get]
  by_cases e : j = k
  · subst e
    rw [if_pos rfl]
    rw [show (t.set j default).getD j default = default by simp [List.getD, hkl]]
    rfl
  · rw [if_neg e, hu j hj]
    rw [show (t.set k default).getD j default = t.getD j default by simp only [List.getD]; rw [List.getElem?_set_ne (by omega)]]
theorem least_eq {t : List GSlot} {u : A16b} {n : Nat} (ht : tbOk t = true) (hu : ∀ j, j < 16 → u.at j = !((t.getD j default).Kind == 0)) (hn : n ≤ 16) (h : ∀ j, j < n → u.at j = true) (hs : n = 16 ∨ u.at n = false) : fz t = n := by
  have hf := fz_le t
  obtain ⟨h16, hall⟩ := tbOk_len ht
  have hz : ∀ j, j < fz t → ((t.getD j default).Kind == 0) = false := fun j hj => by
    have := List.not_of_lt_findIdx hj
    rw [show t.getD j default = t[j]'(by omega) by simp [List.getD, show j < t.length by omega]]
    simpa using this
  rcases Nat.lt_trichotomy (fz t) n with a | a | a
  · exfalso
    have h1 := h _ a
    rw [hu _ (by omega), fz_free hall] at h1
    exact absurd h1 (by decide)
  · exact a
  · exfalso
    rcases hs with e | e
    · omega
    · rw [hu _ (by omega), hz _ a] at e
      exact absurd e (by decide)
theorem putAt_small {t : List GSlot} {s : GSlot} (ht : tbOk t = true) (h : fz t < 16) : (putAt t s).length ≤ 16 := by
  obtain ⟨h16, -⟩ := tbOk_len ht
  unfold putAt
  split
  · simp; omega
  · simp; have := fz_le t; omega
theorem put_yes {t : List GSlot} {s : GSlot} (h : tbOk t = true) (hs : slOk s = true) (hk : (s.Kind == 0) = false) (hf : fz t < 16) : tbPut t s = (putAt t s, (fz t : Int), 0) := by
  rw [tbPut, if_neg (by rw [h, hs, hk]; simp), if_neg (by omega)]
theorem put_full {t : List GSlot} {s : GSlot} (h : tbOk t = true) (hs : slOk s = true) (hk : (s.Kind == 0) = false) (hf : fz t = 16) : tbPut t s = ([], 0, 3) := by
  rw [tbPut, if_neg (by rw [h, hs, hk]; simp), if_pos hf]
theorem put_inv {t : List GSlot} {u : A16b} {s : GSlot} (hk : (s.Kind == 0) = false) (hf : fz t < 16) (hu : ∀ j, j < 16 → u.at j = !((t.getD j default).Kind == 0)) :
    ∀ j, j < 16 → (u.put (fz t) true).at j = !(((putAt t s).getD j default).Kind == 0) := fun j hj => by
  rw [A16b.at_put u true hf hj, putAt_get]
  by_cases e : j = fz t
  · rw [if_pos e, if_pos e, hk]; rfl
  · rw [if_neg e, if_neg e, hu j hj]
def semS (i : Nat) : GSlot := { (default : GSlot) with Kind := 7, Target := IntKind.u64.wrap (1 + (i : Int)) }
theorem sem_ok {i : Nat} (h : i < 60) : slOk (semS i) = true := by
  have : IntKind.u64.wrap (1 + (i : Int)) = 1 + (i : Int) := by
    obtain ⟨j, hj⟩ : ∃ j : Fin 60, (j : Nat) = i := ⟨⟨i, h⟩, rfl⟩
    subst hj
    revert j
    decide
  have hne : ¬ (1 + (i : Int)) = 0 := by omega
  simp only [semS, this]
  simp [slOk, hne]; exact ⟨rfl, rfl⟩
set_option maxHeartbeats 4000000 in
theorem ec_TableLeast (l : List Int) (hl : l.length ≤ 9223372036854775807) (hy : ∀ y ∈ l, 0 ≤ y ∧ y ≤ 255) :
    EC Try.prog 11 [slL 1 (intC .u8) default l] [] fun r B => B = [] ∧ r = .bool true := by
  refine EC.fin (EC.enter E_ok call_11 Try.func11 rfl (by simp [Try.ntmps11]) ?_)
  simp only [Try.ntmps11, Try.results11, bindA]
  (repeat (first | (refine EV_seq ?_; intro K hK) | refine EV_block ?_ | ((refine EV_region E_ok ?_; intro R hR fr; simp only [push_cast, bne_self_eq_false, simprocAttr]; (try (simp (disch := omega) only [i64_in', sub_elt, sub_elt0, getD_map2]; (try simp only [push_cast, bne_self_eq_false, simprocAttr])))); (repeat ((with_reducible apply And.intro); focus (first | (intro hA; exact ⟨hA, fun hB => (by first | (rw [hA, hB]; rfl) | simp_all)⟩) | omega | decide | (simp; done) | (simp; omega) | (intro hA; (repeat' apply And.intro) <;> first | exact hA | omega)))); apply_assumption -exfalso) | refine EV_skip ?_ | refine EV_scope ?_ | refine EV_label ?_ | refine EV_exit ?_ | refine EV_ret ?_ | (simp only [thenP, blockP, scopeP, if_true, reduceIte, reduceCtorEq, if_false, Nat.reduceEqDiff]; apply_assumption -exfalso)))
  ((refine EV_region E_ok ?_; intro R hR fr; simp only [push_cast, bne_self_eq_false, simprocAttr]; (try (simp (disch := omega) only [i64_in', sub_elt, sub_elt0, getD_map2]; (try simp only [push_cast, bne_self_eq_false, simprocAttr])))); (repeat ((with_reducible apply And.intro); focus (first | (intro hA; exact ⟨hA, fun hB => (by first | (rw [hA, hB]; rfl) | simp_all)⟩) | omega | decide | (simp; done) | (simp; omega) | (intro hA; (repeat' apply And.intro) <;> first | exact hA | omega)))))
  (refine EC.use (ec_law10_sane) ?_; (try simp only [hg]); refine EO_run E_ok _ 0 _ _ ?_; intro fr; simp only [push_cast, bne_self_eq_false, simprocAttr]; (try (simp (disch := omega) only [i64_in', sub_elt, sub_elt0, getD_map2]; (try simp only [push_cast, bne_self_eq_false, simprocAttr]))); (repeat ((with_reducible apply And.intro); focus (first | (intro hA; exact ⟨hA, fun hB => (by first | (rw [hA, hB]; rfl) | simp_all)⟩) | omega | decide | (simp; done) | (simp; omega) | (intro hA; (repeat' apply And.intro) <;> first | exact hA | omega)))); (try apply_assumption -exfalso))
  (repeat (first | (refine EV_seq ?_; intro K hK) | refine EV_block ?_ | ((refine EV_region E_ok ?_; intro R hR fr; simp only [push_cast, bne_self_eq_false, simprocAttr]; (try (simp (disch := omega) only [i64_in', sub_elt, sub_elt0, getD_map2]; (try simp only [push_cast, bne_self_eq_false, simprocAttr])))); (repeat ((with_reducible apply And.intro); focus (first | (intro hA; exact ⟨hA, fun hB => (by first | (rw [hA, hB]; rfl) | simp_all)⟩) | omega | decide | (simp; done) | (simp; omega) | (intro hA; (repeat' apply And.intro) <;> first | exact hA | omega)))); apply_assumption -exfalso) | refine EV_skip ?_ | refine EV_scope ?_ | refine EV_label ?_ | refine EV_exit ?_ | refine EV_ret ?_ | (simp only [thenP, blockP, scopeP, if_true, reduceIte, reduceCtorEq, if_false, Nat.reduceEqDiff]; apply_assumption -exfalso)))
  (apply EV_cond; exact rfl; all_goals intro h)
  · simp at h
  clear h
  (repeat (first | (refine EV_seq ?_; intro K hK) | refine EV_block ?_ | ((refine EV_region E_ok ?_; intro R hR fr; simp only [push_cast, bne_self_eq_false, simprocAttr]; (try (simp (disch := omega) only [i64_in', sub_elt, sub_elt0, getD_map2]; (try simp only [push_cast, bne_self_eq_false, simprocAttr])))); (repeat ((with_reducible apply And.intro); focus (first | (intro hA; exact ⟨hA, fun hB => (by first | (rw [hA, hB]; rfl) | simp_all)⟩) | omega | decide | (simp; done) | (simp; omega) | (intro hA; (repeat' apply And.intro) <;> first | exact hA | omega)))); apply_assumption -exfalso) | refine EV_skip ?_ | refine EV_scope ?_ | refine EV_label ?_ | refine EV_exit ?_ | refine EV_ret ?_ | (simp only [thenP, blockP, scopeP, if_true, reduceIte, reduceCtorEq, if_false, Nat.reduceEqDiff]; apply_assumption -exfalso)))
  refine EV_le 3 (s := slL 4 GSlot.c default []) sle_nilL ?_
  refine EV_loopB [0, 4] (fun s : Nat × List GSlot × A16b => [(5, .int .i64 s.1), (3, .sl false 4 s.2.1.length (elt GSlot.c default s.2.1))]) (fun B s => updX B 0 [s.2.2.c]) (fun s => s.1 ≤ l.length ∧ s.1 ≤ 60 ∧ tbOk s.2.1 = true ∧ ∀ j, j < 16 → s.2.2.at j = !((s.2.1.getD j default).Kind == 0)) (fun s => l.length - s.1) (0, [], default) ⟨Nat.zero_le _, Nat.zero_le _, rfl, fun j hj => by rw [A16b.at_def hj]; rfl⟩ ⟨rfl, rfl, trivial⟩ rfl ?_
  rintro ⟨i, t, u⟩ ⟨i1, i2, ht, hu⟩
  dsimp only at i1 i2 ht hu
  obtain ⟨ht16, hall⟩ := tbOk_len ht
  simp only [updX, updH, setX, keepS, lkp, Nat.reduceEqDiff, if_true, if_false, reduceIte, List.cons_append, List.nil_append, List.take_succ_cons, List.take_zero, List.append_nil]
  (repeat (first | (refine EV_seq ?_; intro K hK) | refine EV_block ?_ | ((refine EV_region E_ok ?_; intro R hR fr; simp only [push_cast, bne_self_eq_false, simprocAttr]; (try (simp (disch := omega) only [i64_in', sub_elt, sub_elt0, getD_map2]; (try simp only [push_cast, bne_self_eq_false, simprocAttr])))); (repeat ((with_reducible apply And.intro); focus (first | (intro hA; exact ⟨hA, fun hB => (by first | (rw [hA, hB]; rfl) | simp_all)⟩) | omega | decide | (simp; done) | (simp; omega) | (intro hA; (repeat' apply And.intro) <;> first | exact hA | omega)))); apply_assumption -exfalso) | refine EV_skip ?_ | refine EV_scope ?_ | refine EV_label ?_ | refine EV_exit ?_ | refine EV_ret ?_ | (simp only [thenP, blockP, scopeP, if_true, reduceIte, reduceCtorEq, if_false, Nat.reduceEqDiff]; apply_assumption -exfalso)))
  (apply EV_cond; exact rfl; all_goals intro h)
  rotate_left 1
  · clear h
    (repeat (first | (refine EV_seq ?_; intro K hK) | refine EV_block ?_ | ((refine EV_region E_ok ?_; intro R hR fr; simp only [push_cast, bne_self_eq_false, simprocAttr]; (try (simp (disch := omega) only [i64_in', sub_elt, sub_elt0, getD_map2]; (try simp only [push_cast, bne_self_eq_false, simprocAttr])))); (repeat ((with_reducible apply And.intro); focus (first | (intro hA; exact ⟨hA, fun hB => (by first | (rw [hA, hB]; rfl) | simp_all)⟩) | omega | decide | (simp; done) | (simp; omega) | (intro hA; (repeat' apply And.intro) <;> first | exact hA | omega)))); apply_assumption -exfalso) | refine EV_skip ?_ | refine EV_scope ?_ | refine EV_label ?_ | refine EV_exit ?_ | refine EV_ret ?_ | (simp only [thenP, blockP, scopeP, if_true, reduceIte, reduceCtorEq, if_false, Nat.reduceEqDiff]; apply_assumption -exfalso)))
    refine EV_loopL [0, 3, 4, 99] (fun n : Nat => [(100, .int .i64 n)]) (fun n => n ≤ 16) (fun n => 16 - n) 0 (Nat.zero_le _) ⟨rfl, trivial⟩ ?_
    rintro n hn
    simp only [updX, updH, setX, keepS, lkp, Nat.reduceEqDiff, if_true, if_false, reduceIte, List.cons_append, List.nil_append, List.take_succ_cons, List.take_zero, List.append_nil]
    (repeat (first | (refine EV_seq ?_; intro K hK) | refine EV_block ?_ | ((refine EV_region E_ok ?_; intro R hR fr; simp only [push_cast, bne_self_eq_false, simprocAttr]; (try (simp (disch := omega) only [i64_in', sub_elt, sub_elt0, getD_map2]; (try simp only [push_cast, bne_self_eq_false, simprocAttr])))); (repeat ((with_reducible apply And.intro); focus (first | (intro hA; exact ⟨hA, fun hB => (by first | (rw [hA, hB]; rfl) | simp_all)⟩) | omega | decide | (simp; done) | (simp; omega) | (intro hA; (repeat' apply And.intro) <;> first | exact hA | omega)))); apply_assumption -exfalso) | refine EV_skip ?_ | refine EV_scope ?_ | refine EV_label ?_ | refine EV_exit ?_ | refine EV_ret ?_ | (simp only [thenP, blockP, scopeP, if_true, reduceIte, reduceCtorEq, if_false, Nat.reduceEqDiff]; apply_assumption -exfalso)))
    (apply EV_cond; exact rfl; all_goals intro h)
    rotate_left 1
    · (repeat (first | (refine EV_seq ?_; intro K hK) | refine EV_block ?_ | ((refine EV_region E_ok ?_; intro R hR fr; simp only [push_cast, bne_self_eq_false, simprocAttr]; (try (simp (disch := omega) only [i64_in', sub_elt, sub_elt0, getD_map2]; (try simp only [push_cast, bne_self_eq_false, simprocAttr])))); (repeat ((with_reducible apply And.intro); focus (first | (intro hA; exact ⟨hA, fun hB => (by first | (rw [hA, hB]; rfl) | simp_all)⟩) | omega | decide | (simp; done) | (simp; omega) | (intro hA; (repeat' apply And.intro) <;> first | exact hA | omega)))); apply_assumption -exfalso) | refine EV_skip ?_ | refine EV_scope ?_ | refine EV_label ?_ | refine EV_exit ?_ | refine EV_ret ?_ | (simp only [thenP, blockP, scopeP, if_true, reduceIte, reduceCtorEq, if_false, Nat.reduceEqDiff]; apply_assumption -exfalso)))
      ((refine EV_region E_ok ?_; intro R hR fr; simp only [push_cast, bne_self_eq_false, simprocAttr]; (try (simp (disch := omega) only [i64_in', sub_elt, sub_elt0, getD_map2]; (try simp only [push_cast, bne_self_eq_false, simprocAttr])))); (repeat ((with_reducible apply And.intro); focus (first | (intro hA; exact ⟨hA, fun hB => (by first | (rw [hA, hB]; rfl) | simp_all)⟩) | omega | decide | (simp; done) | (simp; omega) | (intro hA; (repeat' apply And.intro) <;> first | exact hA | omega)))))
      have cv := ec_table_Valid t (by omega)
      rw [ht] at cv
      (refine EC.use (cv) ?_; (try simp only [hg]); refine EO_run E_ok _ 0 _ _ ?_; intro fr; simp only [push_cast, bne_self_eq_false, simprocAttr]; (try (simp (disch := omega) only [i64_in', sub_elt, sub_elt0, getD_map2]; (try simp only [push_cast, bne_self_eq_false, simprocAttr]))); (repeat ((with_reducible apply And.intro); focus (first | (intro hA; exact ⟨hA, fun hB => (by first | (rw [hA, hB]; rfl) | simp_all)⟩) | omega | decide | (simp; done) | (simp; omega) | (intro hA; (repeat' apply And.intro) <;> first | exact hA | omega)))); (try apply_assumption -exfalso))
      (repeat (first | (refine EV_seq ?_; intro K hK) | refine EV_block ?_ | ((refine EV_region E_ok ?_; intro R hR fr; simp only [push_cast, bne_self_eq_false, simprocAttr]; (try (simp (disch := omega) only [i64_in', sub_elt, sub_elt0, getD_map2]; (try simp only [push_cast, bne_self_eq_false, simprocAttr])))); (repeat ((with_reducible apply And.intro); focus (first | (intro hA; exact ⟨hA, fun hB => (by first | (rw [hA, hB]; rfl) | simp_all)⟩) | omega | decide | (simp; done) | (simp; omega) | (intro hA; (repeat' apply And.intro) <;> first | exact hA | omega)))); apply_assumption -exfalso) | refine EV_skip ?_ | refine EV_scope ?_ | refine EV_label ?_ | refine EV_exit ?_ | refine EV_ret ?_ | (simp only [thenP, blockP, scopeP, if_true, reduceIte, reduceCtorEq, if_false, Nat.reduceEqDiff]; apply_assumption -exfalso)))
      (simp only [push_cast, thenP, blockP, scopeP, retP, evR, evRes, evRes1, Nat.zero_lt_one, Nat.reduceEqDiff, Nat.reduceLT, Nat.reduceAdd, Nat.reduceLeDiff, reduceIte, reduceCtorEq]; simp only [frzKT, frzKLA, frzKA, frzKL, frzKC, frzT, frzLA, frzA, frzL, frzC, fromM, getD', List.getD_cons_zero, List.getD_cons_succ, Nat.zero_le, decide_true, and_true, true_and, and_self, push_cast]; refine SLe.of_eq ?_; rfl)
    have hn16 : n < 16 := by simp at h; omega
    clear h
    have c3 := ec_table_Get t n (by omega)
    have hun := hu n hn16
    have hgu : ((tbGet t n).2 == 0) = u.at n := by
      rw [tbGet' _ (by omega), Int.toNat_natCast, hun]
      cases ((t.getD n default).Kind == 0) <;> rfl
    (repeat (first | (refine EV_seq ?_; intro K hK) | refine EV_block ?_ | ((refine EV_region E_ok ?_; intro R hR fr; simp only [push_cast, bne_self_eq_false, simprocAttr]; (try (simp (disch := omega) only [i64_in', sub_elt, sub_elt0, getD_map2]; (try simp only [push_cast, bne_self_eq_false, simprocAttr])))); (repeat ((with_reducible apply And.intro); focus (first | (intro hA; exact ⟨hA, fun hB => (by first | (rw [hA, hB]; rfl) | simp_all)⟩) | omega | decide | (simp; done) | (simp; omega) | (intro hA; (repeat' apply And.intro) <;> first | exact hA | omega)))); apply_assumption -exfalso) | refine EV_skip ?_ | refine EV_scope ?_ | refine EV_label ?_ | refine EV_exit ?_ | refine EV_ret ?_ | (simp only [thenP, blockP, scopeP, if_true, reduceIte, reduceCtorEq, if_false, Nat.reduceEqDiff]; apply_assumption -exfalso)))
    ((refine EV_region E_ok ?_; intro R hR fr; simp only [push_cast, bne_self_eq_false, simprocAttr]; (try (simp (disch := omega) only [i64_in', sub_elt, sub_elt0, getD_map2]; (try simp only [push_cast, bne_self_eq_false, simprocAttr])))); (repeat ((with_reducible apply And.intro); focus (first | (intro hA; exact ⟨hA, fun hB => (by first | (rw [hA, hB]; rfl) | simp_all)⟩) | omega | decide | (simp; done) | (simp; omega) | (intro hA; (repeat' apply And.intro) <;> first | exact hA | omega)))))
    simp only [A16b.g u _ hn16]
    (refine EC.use (c3) ?_; (try simp only [hg]); refine EO_run E_ok _ 0 _ _ ?_; intro fr; simp only [push_cast, bne_self_eq_false, simprocAttr]; (try (simp (disch := omega) only [i64_in', sub_elt, sub_elt0, getD_map2]; (try simp only [push_cast, bne_self_eq_false, simprocAttr]))); (repeat ((with_reducible apply And.intro); focus (first | (intro hA; exact ⟨hA, fun hB => (by first | (rw [hA, hB]; rfl) | simp_all)⟩) | omega | decide | (simp; done) | (simp; omega) | (intro hA; (repeat' apply And.intro) <;> first | exact hA | omega)))); (try apply_assumption -exfalso))
    (repeat (first | (refine EV_seq ?_; intro K hK) | refine EV_block ?_ | ((refine EV_region E_ok ?_; intro R hR fr; simp only [push_cast, bne_self_eq_false, simprocAttr]; (try (simp (disch := omega) only [i64_in', sub_elt, sub_elt0, getD_map2]; (try simp only [push_cast, bne_self_eq_false, simprocAttr])))); (repeat ((with_reducible apply And.intro); focus (first | (intro hA; exact ⟨hA, fun hB => (by first | (rw [hA, hB]; rfl) | simp_all)⟩) | omega | decide | (simp; done) | (simp; omega) | (intro hA; (repeat' apply And.intro) <;> first | exact hA | omega)))); apply_assumption -exfalso) | refine EV_skip ?_ | refine EV_scope ?_ | refine EV_label ?_ | refine EV_exit ?_ | refine EV_ret ?_ | (simp only [thenP, blockP, scopeP, if_true, reduceIte, reduceCtorEq, if_false, Nat.reduceEqDiff]; apply_assumption -exfalso)))
    (apply EV_cond; exact rfl; all_goals intro h)
    · rw [hgu] at h; simp at h
    clear h
    (repeat (first | (refine EV_seq ?_; intro K hK) | refine EV_block ?_ | ((refine EV_region E_ok ?_; intro R hR fr; simp only [push_cast, bne_self_eq_false, simprocAttr]; (try (simp (disch := omega) only [i64_in', sub_elt, sub_elt0, getD_map2]; (try simp only [push_cast, bne_self_eq_false, simprocAttr])))); (repeat ((with_reducible apply And.intro); focus (first | (intro hA; exact ⟨hA, fun hB => (by first | (rw [hA, hB]; rfl) | simp_all)⟩) | omega | decide | (simp; done) | (simp; omega) | (intro hA; (repeat' apply And.intro) <;> first | exact hA | omega)))); apply_assumption -exfalso) | refine EV_skip ?_ | refine EV_scope ?_ | refine EV_label ?_ | refine EV_exit ?_ | refine EV_ret ?_ | (simp only [thenP, blockP, scopeP, if_true, reduceIte, reduceCtorEq, if_false, Nat.reduceEqDiff]; apply_assumption -exfalso)))
    (simp only [thenP, blockP, scopeP, if_true, reduceIte, reduceCtorEq, if_false]; refine ⟨n + 1, ?_, ?_, (by first | (simp [wkS, lkp, List.take_length]; done) | repeat (first | exact trivial | refine And.intro (by first | rfl | (simp only [lkp, push_cast, bne_self_eq_false, simprocAttr]; done) | (simp [lkp]; done)) ?_)), (by first | (simp only [push_cast, List.take_length, List.take_append_of_le_length, bne_self_eq_false, simprocAttr]; done) | (simp [updX, updH, setX]; done))⟩)
    · omega
    · omega
  have hlt : i < l.length ∧ i < 60 := by simp at h; omega
  clear h
  have hx := hy _ (getD_mem hlt.1)
  (repeat (first | (refine EV_seq ?_; intro K hK) | refine EV_block ?_ | ((refine EV_region E_ok ?_; intro R hR fr; simp only [push_cast, bne_self_eq_false, simprocAttr]; (try (simp (disch := omega) only [i64_in', sub_elt, sub_elt0, getD_map2]; (try simp only [push_cast, bne_self_eq_false, simprocAttr])))); (repeat ((with_reducible apply And.intro); focus (first | (intro hA; exact ⟨hA, fun hB => (by first | (rw [hA, hB]; rfl) | simp_all)⟩) | omega | decide | (simp; done) | (simp; omega) | (intro hA; (repeat' apply And.intro) <;> first | exact hA | omega)))); apply_assumption -exfalso) | refine EV_skip ?_ | refine EV_scope ?_ | refine EV_label ?_ | refine EV_exit ?_ | refine EV_ret ?_ | (simp only [thenP, blockP, scopeP, if_true, reduceIte, reduceCtorEq, if_false, Nat.reduceEqDiff]; apply_assumption -exfalso)))
  generalize l.getD i default = x at hx ⊢
  obtain ⟨k, hk, hk16⟩ : ∃ k : Nat, IntKind.i64.wrap (x.tmod 16) = (k : Int) ∧ k < 16 := ⟨(x % 16).toNat, by rw [Int.tmod_eq_emod_of_nonneg hx.1, i64_in' (by omega)]; omega, by omega⟩
  simp only [hk]
  (apply EV_cond; exact rfl; all_goals intro h)
  · clear h
    have c1 := ec_table_Clear t k (by omega)
    have huk := hu k hk16
    rcases hb : ((t.getD k default).Kind == 0) with _ | _
    · rw [clear_yes ht hb] at c1
      rw [hb] at huk
      obtain ⟨n1, n2⟩ := clear_inv ht hk16 hb hu
      generalize strip (t.set k default) = t2 at n1 n2 c1
      (repeat (first | (refine EV_seq ?_; intro K hK) | refine EV_block ?_ | ((refine EV_region E_ok ?_; intro R hR fr; simp only [push_cast, bne_self_eq_false, simprocAttr]; (try (simp (disch := omega) only [i64_in', sub_elt, sub_elt0, getD_map2]; (try simp only [push_cast, bne_self_eq_false, simprocAttr])))); (repeat ((with_reducible apply And.intro); focus (first | (intro hA; exact ⟨hA, fun hB => (by first | (rw [hA, hB]; rfl) | simp_all)⟩) | omega | decide | (simp; done) | (simp; omega) | (intro hA; (repeat' apply And.intro) <;> first | exact hA | omega)))); apply_assumption -exfalso) | refine EV_skip ?_ | refine EV_scope ?_ | refine EV_label ?_ | refine EV_exit ?_ | refine EV_ret ?_ | (simp only [thenP, blockP, scopeP, if_true, reduceIte, reduceCtorEq, if_false, Nat.reduceEqDiff]; apply_assumption -exfalso)))
      ((refine EV_region E_ok ?_; intro R hR fr; simp only [push_cast, bne_self_eq_false, simprocAttr]; (try (simp (disch := omega) only [i64_in', sub_elt, sub_elt0, getD_map2]; (try simp only [push_cast, bne_self_eq_false, simprocAttr])))); (repeat ((with_reducible apply And.intro); focus (first | (intro hA; exact ⟨hA, fun hB => (by first | (rw [hA, hB]; rfl) | simp_all)⟩) | omega | decide | (simp; done) | (simp; omega) | (intro hA; (repeat' apply And.intro) <;> first | exact hA | omega)))))
      (refine EC.use (c1) ?_; (try simp only [hg]); refine EO_run E_ok _ 0 _ _ ?_; intro fr; simp only [push_cast, bne_self_eq_false, simprocAttr]; (try (simp (disch := omega) only [i64_in', sub_elt, sub_elt0, getD_map2]; (try simp only [push_cast, bne_self_eq_false, simprocAttr]))); (repeat ((with_reducible apply And.intro); focus (first | (intro hA; exact ⟨hA, fun hB => (by first | (rw [hA, hB]; rfl) | simp_all)⟩) | omega | decide | (simp; done) | (simp; omega) | (intro hA; (repeat' apply And.intro) <;> first | exact hA | omega)))); (try apply_assumption -exfalso))
      (repeat (first | (refine EV_seq ?_; intro K hK) | refine EV_block ?_ | ((refine EV_region E_ok ?_; intro R hR fr; simp only [push_cast, bne_self_eq_false, simprocAttr]; (try (simp (disch := omega) only [i64_in', sub_elt, sub_elt0, getD_map2]; (try simp only [push_cast, bne_self_eq_false, simprocAttr])))); (repeat ((with_reducible apply And.intro); focus (first | (intro hA; exact ⟨hA, fun hB => (by first | (rw [hA, hB]; rfl) | simp_all)⟩) | omega | decide | (simp; done) | (simp; omega) | (intro hA; (repeat' apply And.intro) <;> first | exact hA | omega)))); apply_assumption -exfalso) | refine EV_skip ?_ | refine EV_scope ?_ | refine EV_label ?_ | refine EV_exit ?_ | refine EV_ret ?_ | (simp only [thenP, blockP, scopeP, if_true, reduceIte, reduceCtorEq, if_false, Nat.reduceEqDiff]; apply_assumption -exfalso)))
      ((refine EV_region E_ok ?_; intro R hR fr; simp only [push_cast, bne_self_eq_false, simprocAttr]; (try (simp (disch := omega) only [i64_in', sub_elt, sub_elt0, getD_map2]; (try simp only [push_cast, bne_self_eq_false, simprocAttr])))); (repeat ((with_reducible apply And.intro); focus (first | (intro hA; exact ⟨hA, fun hB => (by first | (rw [hA, hB]; rfl) | simp_all)⟩) | omega | decide | (simp; done) | (simp; omega) | (intro hA; (repeat' apply And.intro) <;> first | exact hA | omega)))))
      simp only [A16b.g u _ hk16, huk]
      simp only [push_cast, bne_self_eq_false, simprocAttr]
      (try (simp (disch := omega) only [i64_in', sub_elt, sub_elt0, getD_map2]; (try simp only [push_cast, bne_self_eq_false, simprocAttr])))
      (repeat ((with_reducible apply And.intro); focus (first | (intro hA; exact ⟨hA, fun hB => (by first | (rw [hA, hB]; rfl) | simp_all)⟩) | omega | decide | (simp; done) | (simp; omega) | (intro hA; (repeat' apply And.intro) <;> first | exact hA | omega))))
      (try apply_assumption -exfalso)
      (repeat (first | (refine EV_seq ?_; intro K hK) | refine EV_block ?_ | ((refine EV_region E_ok ?_; intro R hR fr; simp only [push_cast, bne_self_eq_false, simprocAttr]; (try (simp (disch := omega) only [i64_in', sub_elt, sub_elt0, getD_map2]; (try simp only [push_cast, bne_self_eq_false, simprocAttr])))); (repeat ((with_reducible apply And.intro); focus (first | (intro hA; exact ⟨hA, fun hB => (by first | (rw [hA, hB]; rfl) | simp_all)⟩) | omega | decide | (simp; done) | (simp; omega) | (intro hA; (repeat' apply And.intro) <;> first | exact hA | omega)))); apply_assumption -exfalso) | refine EV_skip ?_ | refine EV_scope ?_ | refine EV_label ?_ | refine EV_exit ?_ | refine EV_ret ?_ | (simp only [thenP, blockP, scopeP, if_true, reduceIte, reduceCtorEq, if_false, Nat.reduceEqDiff]; apply_assumption -exfalso)))
      (apply EV_cond; exact rfl; all_goals intro h)
      · simp at h
      clear h
      (repeat (first | (refine EV_seq ?_; intro K hK) | refine EV_block ?_ | ((refine EV_region E_ok ?_; intro R hR fr; simp only [push_cast, bne_self_eq_false, simprocAttr]; (try (simp (disch := omega) only [i64_in', sub_elt, sub_elt0, getD_map2]; (try simp only [push_cast, bne_self_eq_false, simprocAttr])))); (repeat ((with_reducible apply And.intro); focus (first | (intro hA; exact ⟨hA, fun hB => (by first | (rw [hA, hB]; rfl) | simp_all)⟩) | omega | decide | (simp; done) | (simp; omega) | (intro hA; (repeat' apply And.intro) <;> first | exact hA | omega)))); apply_assumption -exfalso) | refine EV_skip ?_ | refine EV_scope ?_ | refine EV_label ?_ | refine EV_exit ?_ | refine EV_ret ?_ | (simp only [thenP, blockP, scopeP, if_true, reduceIte, reduceCtorEq, if_false, Nat.reduceEqDiff]; apply_assumption -exfalso)))
      (apply EV_cond; exact rfl; all_goals intro h)
      rotate_left 1
      · simp at h
      clear h
      (repeat (first | (refine EV_seq ?_; intro K hK) | refine EV_block ?_ | ((refine EV_region E_ok ?_; intro R hR fr; simp only [push_cast, bne_self_eq_false, simprocAttr]; (try (simp (disch := omega) only [i64_in', sub_elt, sub_elt0, getD_map2]; (try simp only [push_cast, bne_self_eq_false, simprocAttr])))); (repeat ((with_reducible apply And.intro); focus (first | (intro hA; exact ⟨hA, fun hB => (by first | (rw [hA, hB]; rfl) | simp_all)⟩) | omega | decide | (simp; done) | (simp; omega) | (intro hA; (repeat' apply And.intro) <;> first | exact hA | omega)))); apply_assumption -exfalso) | refine EV_skip ?_ | refine EV_scope ?_ | refine EV_label ?_ | refine EV_exit ?_ | refine EV_ret ?_ | (simp only [thenP, blockP, scopeP, if_true, reduceIte, reduceCtorEq, if_false, Nat.reduceEqDiff]; apply_assumption -exfalso)))
      rw [A16b.p u false hk16]
      (simp only [thenP, blockP, scopeP, if_true, reduceIte, reduceCtorEq, if_false]; refine ⟨(i + 1, t2, u.put k false), ?_, ?_, (by first | (simp [wkS, lkp, List.take_length]; done) | repeat (first | exact trivial | refine And.intro (by first | rfl | (simp only [lkp, push_cast, bne_self_eq_false, simprocAttr]; done) | (simp [lkp]; done)) ?_)), (by first | (simp only [push_cast, List.take_length, List.take_append_of_le_length, bne_self_eq_false, simprocAttr]; done) | (simp [updX, updH, setX]; done))⟩)
      · exact ⟨by dsimp only; omega, by dsimp only; omega, n1, n2⟩
      · dsimp only; omega
    · rw [clear_no ht hb] at c1
      rw [hb] at huk
      (repeat (first | (refine EV_seq ?_; intro K hK) | refine EV_block ?_ | ((refine EV_region E_ok ?_; intro R hR fr; simp only [push_cast, bne_self_eq_false, simprocAttr]; (try (simp (disch := omega) only [i64_in', sub_elt, sub_elt0, getD_map2]; (try simp only [push_cast, bne_self_eq_false, simprocAttr])))); (repeat ((with_reducible apply And.intro); focus (first | (intro hA; exact ⟨hA, fun hB => (by first | (rw [hA, hB]; rfl) | simp_all)⟩) | omega | decide | (simp; done) | (simp; omega) | (intro hA; (repeat' apply And.intro) <;> first | exact hA | omega)))); apply_assumption -exfalso) | refine EV_skip ?_ | refine EV_scope ?_ | refine EV_label ?_ | refine EV_exit ?_ | refine EV_ret ?_ | (simp only [thenP, blockP, scopeP, if_true, reduceIte, reduceCtorEq, if_false, Nat.reduceEqDiff]; apply_assumption -exfalso)))
      ((refine EV_region E_ok ?_; intro R hR fr; simp only [push_cast, bne_self_eq_false, simprocAttr]; (try (simp (disch := omega) only [i64_in', sub_elt, sub_elt0, getD_map2]; (try simp only [push_cast, bne_self_eq_false, simprocAttr])))); (repeat ((with_reducible apply And.intro); focus (first | (intro hA; exact ⟨hA, fun hB => (by first | (rw [hA, hB]; rfl) | simp_all)⟩) | omega | decide | (simp; done) | (simp; omega) | (intro hA; (repeat' apply And.intro) <;> first | exact hA | omega)))))
      (refine EC.use (c1) ?_; (try simp only [hg]); refine EO_run E_ok _ 0 _ _ ?_; intro fr; simp only [push_cast, bne_self_eq_false, simprocAttr]; (try (simp (disch := omega) only [i64_in', sub_elt, sub_elt0, getD_map2]; (try simp only [push_cast, bne_self_eq_false, simprocAttr]))); (repeat ((with_reducible apply And.intro); focus (first | (intro hA; exact ⟨hA, fun hB => (by first | (rw [hA, hB]; rfl) | simp_all)⟩) | omega | decide | (simp; done) | (simp; omega) | (intro hA; (repeat' apply And.intro) <;> first | exact hA | omega)))); (try apply_assumption -exfalso))
      (repeat (first | (refine EV_seq ?_; intro K hK) | refine EV_block ?_ | ((refine EV_region E_ok ?_; intro R hR fr; simp only [push_cast, bne_self_eq_false, simprocAttr]; (try (simp (disch := omega) only [i64_in', sub_elt, sub_elt0, getD_map2]; (try simp only [push_cast, bne_self_eq_false, simprocAttr])))); (repeat ((with_reducible apply And.intro); focus (first | (intro hA; exact ⟨hA, fun hB => (by first | (rw [hA, hB]; rfl) | simp_all)⟩) | omega | decide | (simp; done) | (simp; omega) | (intro hA; (repeat' apply And.intro) <;> first | exact hA | omega)))); apply_assumption -exfalso) | refine EV_skip ?_ | refine EV_scope ?_ | refine EV_label ?_ | refine EV_exit ?_ | refine EV_ret ?_ | (simp only [thenP, blockP, scopeP, if_true, reduceIte, reduceCtorEq, if_false, Nat.reduceEqDiff]; apply_assumption -exfalso)))
      ((refine EV_region E_ok ?_; intro R hR fr; simp only [push_cast, bne_self_eq_false, simprocAttr]; (try (simp (disch := omega) only [i64_in', sub_elt, sub_elt0, getD_map2]; (try simp only [push_cast, bne_self_eq_false, simprocAttr])))); (repeat ((with_reducible apply And.intro); focus (first | (intro hA; exact ⟨hA, fun hB => (by first | (rw [hA, hB]; rfl) | simp_all)⟩) | omega | decide | (simp; done) | (simp; omega) | (intro hA; (repeat' apply And.intro) <;> first | exact hA | omega)))))
      simp only [A16b.g u _ hk16, huk]
      simp only [push_cast, bne_self_eq_false, simprocAttr]
      (try (simp (disch := omega) only [i64_in', sub_elt, sub_elt0, getD_map2]; (try simp only [push_cast, bne_self_eq_false, simprocAttr])))
      (repeat ((with_reducible apply And.intro); focus (first | (intro hA; exact ⟨hA, fun hB => (by first | (rw [hA, hB]; rfl) | simp_all)⟩) | omega | decide | (simp; done) | (simp; omega) | (intro hA; (repeat' apply And.intro) <;> first | exact hA | omega))))
      (try apply_assumption -exfalso)
      (repeat (first | (refine EV_seq ?_; intro K hK) | refine EV_block ?_ | ((refine EV_region E_ok ?_; intro R hR fr; simp only [push_cast, bne_self_eq_false, simprocAttr]; (try (simp (disch := omega) only [i64_in', sub_elt, sub_elt0, getD_map2]; (try simp only [push_cast, bne_self_eq_false, simprocAttr])))); (repeat ((with_reducible apply And.intro); focus (first | (intro hA; exact ⟨hA, fun hB => (by first | (rw [hA, hB]; rfl) | simp_all)⟩) | omega | decide | (simp; done) | (simp; omega) | (intro hA; (repeat' apply And.intro) <;> first | exact hA | omega)))); apply_assumption -exfalso) | refine EV_skip ?_ | refine EV_scope ?_ | refine EV_label ?_ | refine EV_exit ?_ | refine EV_ret ?_ | (simp only [thenP, blockP, scopeP, if_true, reduceIte, reduceCtorEq, if_false, Nat.reduceEqDiff]; apply_assumption -exfalso)))
      (apply EV_cond; exact rfl; all_goals intro h)
      · simp at h
      clear h
      (repeat (first | (refine EV_seq ?_; intro K hK) | refine EV_block ?_ | ((refine EV_region E_ok ?_; intro R hR fr; simp only [push_cast, bne_self_eq_false, simprocAttr]; (try (simp (disch := omega) only [i64_in', sub_elt, sub_elt0, getD_map2]; (try simp only [push_cast, bne_self_eq_false, simprocAttr])))); (repeat ((with_reducible apply And.intro); focus (first | (intro hA; exact ⟨hA, fun hB => (by first | (rw [hA, hB]; rfl) | simp_all)⟩) | omega | decide | (simp; done) | (simp; omega) | (intro hA; (repeat' apply And.intro) <;> first | exact hA | omega)))); apply_assumption -exfalso) | refine EV_skip ?_ | refine EV_scope ?_ | refine EV_label ?_ | refine EV_exit ?_ | refine EV_ret ?_ | (simp only [thenP, blockP, scopeP, if_true, reduceIte, reduceCtorEq, if_false, Nat.reduceEqDiff]; apply_assumption -exfalso)))
      (apply EV_cond; exact rfl; all_goals intro h)
      · simp at h
      clear h
      (repeat (first | (refine EV_seq ?_; intro K hK) | refine EV_block ?_ | ((refine EV_region E_ok ?_; intro R hR fr; simp only [push_cast, bne_self_eq_false, simprocAttr]; (try (simp (disch := omega) only [i64_in', sub_elt, sub_elt0, getD_map2]; (try simp only [push_cast, bne_self_eq_false, simprocAttr])))); (repeat ((with_reducible apply And.intro); focus (first | (intro hA; exact ⟨hA, fun hB => (by first | (rw [hA, hB]; rfl) | simp_all)⟩) | omega | decide | (simp; done) | (simp; omega) | (intro hA; (repeat' apply And.intro) <;> first | exact hA | omega)))); apply_assumption -exfalso) | refine EV_skip ?_ | refine EV_scope ?_ | refine EV_label ?_ | refine EV_exit ?_ | refine EV_ret ?_ | (simp only [thenP, blockP, scopeP, if_true, reduceIte, reduceCtorEq, if_false, Nat.reduceEqDiff]; apply_assumption -exfalso)))
      (simp only [thenP, blockP, scopeP, if_true, reduceIte, reduceCtorEq, if_false]; refine ⟨(i + 1, t, u), ?_, ?_, (by first | (simp [wkS, lkp, List.take_length]; done) | repeat (first | exact trivial | refine And.intro (by first | rfl | (simp only [lkp, push_cast, bne_self_eq_false, simprocAttr]; done) | (simp [lkp]; done)) ?_)), (by first | (simp only [push_cast, List.take_length, List.take_append_of_le_length, bne_self_eq_false, simprocAttr]; done) | (simp [updX, updH, setX]; done))⟩)
      · exact ⟨by dsimp only; omega, by dsimp only; omega, ht, hu⟩
      · dsimp only; omega
  clear h
  (repeat (first | (refine EV_seq ?_; intro K hK) | refine EV_block ?_ | ((refine EV_region E_ok ?_; intro R hR fr; simp only [push_cast, bne_self_eq_false, simprocAttr]; (try (simp (disch := omega) only [i64_in', sub_elt, sub_elt0, getD_map2]; (try simp only [push_cast, bne_self_eq_false, simprocAttr])))); (repeat ((with_reducible apply And.intro); focus (first | (intro hA; exact ⟨hA, fun hB => (by first | (rw [hA, hB]; rfl) | simp_all)⟩) | omega | decide | (simp; done) | (simp; omega) | (intro hA; (repeat' apply And.intro) <;> first | exact hA | omega)))); apply_assumption -exfalso) | refine EV_skip ?_ | refine EV_scope ?_ | refine EV_label ?_ | refine EV_exit ?_ | refine EV_ret ?_ | (simp only [thenP, blockP, scopeP, if_true, reduceIte, reduceCtorEq, if_false, Nat.reduceEqDiff]; apply_assumption -exfalso)))
  have hsm := sem_ok hlt.2
  refine EV_loopL [0, 3, 4, 5] (fun n : Nat => [(9, .int .i64 n)]) (fun n => n ≤ 16 ∧ ∀ j, j < n → u.at j = true) (fun n => 16 - n) 0 ⟨Nat.zero_le _, fun j hj => absurd hj (Nat.not_lt_zero _)⟩ ⟨rfl, trivial⟩ ?_
  rintro n ⟨hn, hun⟩
  rcases Nat.lt_or_ge n 16 with hn16 | hn16
  · rcases hb : u.at n with _ | _
    · have hfz := least_eq ht hu hn hun (.inr hb)
      have hpi := put_inv (t := t) (u := u) (s := semS i) rfl (by omega) hu
      have hpo := putAt_ok2 (s := semS i) ht (putAt_small ht (by omega)) hsm rfl
      have c2 := ec_table_Put t (semS i) (by omega)
      rw [put_yes ht hsm rfl (by omega)] at c2
      rw [hfz] at c2 hpi
      simp only [updX, updH, setX, keepS, lkp, Nat.reduceEqDiff, if_true, if_false, reduceIte, List.cons_append, List.nil_append, List.take_succ_cons, List.take_zero, List.append_nil]
      (repeat (first | (refine EV_seq ?_; intro K hK) | refine EV_block ?_ | ((refine EV_region E_ok ?_; intro R hR fr; simp only [push_cast, bne_self_eq_false, simprocAttr]; (try (simp (disch := omega) only [i64_in', sub_elt, sub_elt0, getD_map2]; (try simp only [push_cast, bne_self_eq_false, simprocAttr])))); (repeat ((with_reducible apply And.intro); focus (first | (intro hA; exact ⟨hA, fun hB => (by first | (rw [hA, hB]; rfl) | simp_all)⟩) | omega | decide | (simp; done) | (simp; omega) | (intro hA; (repeat' apply And.intro) <;> first | exact hA | omega)))); apply_assumption -exfalso) | refine EV_skip ?_ | refine EV_scope ?_ | refine EV_label ?_ | refine EV_exit ?_ | refine EV_ret ?_ | (simp only [thenP, blockP, scopeP, if_true, reduceIte, reduceCtorEq, if_false, Nat.reduceEqDiff]; apply_assumption -exfalso)))
      ((refine EV_region E_ok ?_; intro R hR fr; simp only [push_cast, bne_self_eq_false, simprocAttr]; (try (simp (disch := omega) only [i64_in', sub_elt, sub_elt0, getD_map2]; (try simp only [push_cast, bne_self_eq_false, simprocAttr])))); (repeat ((with_reducible apply And.intro); focus (first | (intro hA; exact ⟨hA, fun hB => (by first | (rw [hA, hB]; rfl) | simp_all)⟩) | omega | decide | (simp; done) | (simp; omega) | (intro hA; (repeat' apply And.intro) <;> first | exact hA | omega)))))
      simp only [A16b.g u _ hn16, hb]
      simp only [push_cast, bne_self_eq_false, simprocAttr]
      (try (simp (disch := omega) only [i64_in', sub_elt, sub_elt0, getD_map2]; (try simp only [push_cast, bne_self_eq_false, simprocAttr])))
      (repeat ((with_reducible apply And.intro); focus (first | (intro hA; exact ⟨hA, fun hB => (by first | (rw [hA, hB]; rfl) | simp_all)⟩) | omega | decide | (simp; done) | (simp; omega) | (intro hA; (repeat' apply And.intro) <;> first | exact hA | omega))))
      (try apply_assumption -exfalso)
      (repeat (first | (refine EV_seq ?_; intro K hK) | refine EV_block ?_ | ((refine EV_region E_ok ?_; intro R hR fr; simp only [push_cast, bne_self_eq_false, simprocAttr]; (try (simp (disch := omega) only [i64_in', sub_elt, sub_elt0, getD_map2]; (try simp only [push_cast, bne_self_eq_false, simprocAttr])))); (repeat ((with_reducible apply And.intro); focus (first | (intro hA; exact ⟨hA, fun hB => (by first | (rw [hA, hB]; rfl) | simp_all)⟩) | omega | decide | (simp; done) | (simp; omega) | (intro hA; (repeat' apply And.intro) <;> first | exact hA | omega)))); apply_assumption -exfalso) | refine EV_skip ?_ | refine EV_scope ?_ | refine EV_label ?_ | refine EV_exit ?_ | refine EV_ret ?_ | (simp only [thenP, blockP, scopeP, if_true, reduceIte, reduceCtorEq, if_false, Nat.reduceEqDiff]; apply_assumption -exfalso)))
      (apply EV_cond; exact rfl; all_goals intro h)
      · simp at h
      clear h
      (repeat (first | (refine EV_seq ?_; intro K hK) | refine EV_block ?_ | ((refine EV_region E_ok ?_; intro R hR fr; simp only [push_cast, bne_self_eq_false, simprocAttr]; (try (simp (disch := omega) only [i64_in', sub_elt, sub_elt0, getD_map2]; (try simp only [push_cast, bne_self_eq_false, simprocAttr])))); (repeat ((with_reducible apply And.intro); focus (first | (intro hA; exact ⟨hA, fun hB => (by first | (rw [hA, hB]; rfl) | simp_all)⟩) | omega | decide | (simp; done) | (simp; omega) | (intro hA; (repeat' apply And.intro) <;> first | exact hA | omega)))); apply_assumption -exfalso) | refine EV_skip ?_ | refine EV_scope ?_ | refine EV_label ?_ | refine EV_exit ?_ | refine EV_ret ?_ | (simp only [thenP, blockP, scopeP, if_true, reduceIte, reduceCtorEq, if_false, Nat.reduceEqDiff]; apply_assumption -exfalso)))
      ((refine EV_region E_ok ?_; intro R hR fr; simp only [push_cast, bne_self_eq_false, simprocAttr]; (try (simp (disch := omega) only [i64_in', sub_elt, sub_elt0, getD_map2]; (try simp only [push_cast, bne_self_eq_false, simprocAttr])))); (repeat ((with_reducible apply And.intro); focus (first | (intro hA; exact ⟨hA, fun hB => (by first | (rw [hA, hB]; rfl) | simp_all)⟩) | omega | decide | (simp; done) | (simp; omega) | (intro hA; (repeat' apply And.intro) <;> first | exact hA | omega)))))
      (refine EC.use (c2) ?_; (try simp only [hg]); refine EO_run E_ok _ 0 _ _ ?_; intro fr; simp only [push_cast, bne_self_eq_false, simprocAttr]; (try (simp (disch := omega) only [i64_in', sub_elt, sub_elt0, getD_map2]; (try simp only [push_cast, bne_self_eq_false, simprocAttr]))); (repeat ((with_reducible apply And.intro); focus (first | (intro hA; exact ⟨hA, fun hB => (by first | (rw [hA, hB]; rfl) | simp_all)⟩) | omega | decide | (simp; done) | (simp; omega) | (intro hA; (repeat' apply And.intro) <;> first | exact hA | omega)))); (try apply_assumption -exfalso))
      (repeat (first | (refine EV_seq ?_; intro K hK) | refine EV_block ?_ | ((refine EV_region E_ok ?_; intro R hR fr; simp only [push_cast, bne_self_eq_false, simprocAttr]; (try (simp (disch := omega) only [i64_in', sub_elt, sub_elt0, getD_map2]; (try simp only [push_cast, bne_self_eq_false, simprocAttr])))); (repeat ((with_reducible apply And.intro); focus (first | (intro hA; exact ⟨hA, fun hB => (by first | (rw [hA, hB]; rfl) | simp_all)⟩) | omega | decide | (simp; done) | (simp; omega) | (intro hA; (repeat' apply And.intro) <;> first | exact hA | omega)))); apply_assumption -exfalso) | refine EV_skip ?_ | refine EV_scope ?_ | refine EV_label ?_ | refine EV_exit ?_ | refine EV_ret ?_ | (simp only [thenP, blockP, scopeP, if_true, reduceIte, reduceCtorEq, if_false, Nat.reduceEqDiff]; apply_assumption -exfalso)))
      (apply EV_cond; exact rfl; all_goals intro h)
      · simp at h; omega
      clear h
      (repeat (first | (refine EV_seq ?_; intro K hK) | refine EV_block ?_ | ((refine EV_region E_ok ?_; intro R hR fr; simp only [push_cast, bne_self_eq_false, simprocAttr]; (try (simp (disch := omega) only [i64_in', sub_elt, sub_elt0, getD_map2]; (try simp only [push_cast, bne_self_eq_false, simprocAttr])))); (repeat ((with_reducible apply And.intro); focus (first | (intro hA; exact ⟨hA, fun hB => (by first | (rw [hA, hB]; rfl) | simp_all)⟩) | omega | decide | (simp; done) | (simp; omega) | (intro hA; (repeat' apply And.intro) <;> first | exact hA | omega)))); apply_assumption -exfalso) | refine EV_skip ?_ | refine EV_scope ?_ | refine EV_label ?_ | refine EV_exit ?_ | refine EV_ret ?_ | (simp only [thenP, blockP, scopeP, if_true, reduceIte, reduceCtorEq, if_false, Nat.reduceEqDiff]; apply_assumption -exfalso)))
      (apply EV_cond; exact rfl; all_goals intro h)
      · simp at h
      clear h
      (repeat (first | (refine EV_seq ?_; intro K hK) | refine EV_block ?_ | ((refine EV_region E_ok ?_; intro R hR fr; simp only [push_cast, bne_self_eq_false, simprocAttr]; (try (simp (disch := omega) only [i64_in', sub_elt, sub_elt0, getD_map2]; (try simp only [push_cast, bne_self_eq_false, simprocAttr])))); (repeat ((with_reducible apply And.intro); focus (first | (intro hA; exact ⟨hA, fun hB => (by first | (rw [hA, hB]; rfl) | simp_all)⟩) | omega | decide | (simp; done) | (simp; omega) | (intro hA; (repeat' apply And.intro) <;> first | exact hA | omega)))); apply_assumption -exfalso) | refine EV_skip ?_ | refine EV_scope ?_ | refine EV_label ?_ | refine EV_exit ?_ | refine EV_ret ?_ | (simp only [thenP, blockP, scopeP, if_true, reduceIte, reduceCtorEq, if_false, Nat.reduceEqDiff]; apply_assumption -exfalso)))
      rw [A16b.p u true hn16]
      (simp only [thenP, blockP, scopeP, if_true, reduceIte, reduceCtorEq, if_false]; refine ⟨(i + 1, putAt t (semS i), u.put n true), ?_, ?_, (by first | (simp [wkS, lkp, List.take_length]; done) | repeat (first | exact trivial | refine And.intro (by first | rfl | (simp only [lkp, push_cast, bne_self_eq_false, simprocAttr]; done) | (simp [lkp]; done)) ?_)), (by first | (simp only [push_cast, List.take_length, List.take_append_of_le_length, bne_self_eq_false, simprocAttr]; done) | (simp [updX, updH, setX]; done))⟩)
      · exact ⟨by dsimp only; omega, by dsimp only; omega, hpo, hpi⟩
      · dsimp only; omega
    · simp only [updX, updH, setX, keepS, lkp, Nat.reduceEqDiff, if_true, if_false, reduceIte, List.cons_append, List.nil_append, List.take_succ_cons, List.take_zero, List.append_nil]
      (repeat (first | (refine EV_seq ?_; intro K hK) | refine EV_block ?_ | ((refine EV_region E_ok ?_; intro R hR fr; simp only [push_cast, bne_self_eq_false, simprocAttr]; (try (simp (disch := omega) only [i64_in', sub_elt, sub_elt0, getD_map2]; (try simp only [push_cast, bne_self_eq_false, simprocAttr])))); (repeat ((with_reducible apply And.intro); focus (first | (intro hA; exact ⟨hA, fun hB => (by first | (rw [hA, hB]; rfl) | simp_all)⟩) | omega | decide | (simp; done) | (simp; omega) | (intro hA; (repeat' apply And.intro) <;> first | exact hA | omega)))); apply_assumption -exfalso) | refine EV_skip ?_ | refine EV_scope ?_ | refine EV_label ?_ | refine EV_exit ?_ | refine EV_ret ?_ | (simp only [thenP, blockP, scopeP, if_true, reduceIte, reduceCtorEq, if_false, Nat.reduceEqDiff]; apply_assumption -exfalso)))
      ((refine EV_region E_ok ?_; intro R hR fr; simp only [push_cast, bne_self_eq_false, simprocAttr]; (try (simp (disch := omega) only [i64_in', sub_elt, sub_elt0, getD_map2]; (try simp only [push_cast, bne_self_eq_false, simprocAttr])))); (repeat ((with_reducible apply And.intro); focus (first | (intro hA; exact ⟨hA, fun hB => (by first | (rw [hA, hB]; rfl) | simp_all)⟩) | omega | decide | (simp; done) | (simp; omega) | (intro hA; (repeat' apply And.intro) <;> first | exact hA | omega)))))
      simp only [A16b.g u _ hn16, hb]
      simp only [push_cast, bne_self_eq_false, simprocAttr]
      (try (simp (disch := omega) only [i64_in', sub_elt, sub_elt0, getD_map2]; (try simp only [push_cast, bne_self_eq_false, simprocAttr])))
      (repeat ((with_reducible apply And.intro); focus (first | (intro hA; exact ⟨hA, fun hB => (by first | (rw [hA, hB]; rfl) | simp_all)⟩) | omega | decide | (simp; done) | (simp; omega) | (intro hA; (repeat' apply And.intro) <;> first | exact hA | omega))))
      (try apply_assumption -exfalso)
      (repeat (first | (refine EV_seq ?_; intro K hK) | refine EV_block ?_ | ((refine EV_region E_ok ?_; intro R hR fr; simp only [push_cast, bne_self_eq_false, simprocAttr]; (try (simp (disch := omega) only [i64_in', sub_elt, sub_elt0, getD_map2]; (try simp only [push_cast, bne_self_eq_false, simprocAttr])))); (repeat ((with_reducible apply And.intro); focus (first | (intro hA; exact ⟨hA, fun hB => (by first | (rw [hA, hB]; rfl) | simp_all)⟩) | omega | decide | (simp; done) | (simp; omega) | (intro hA; (repeat' apply And.intro) <;> first | exact hA | omega)))); apply_assumption -exfalso) | refine EV_skip ?_ | refine EV_scope ?_ | refine EV_label ?_ | refine EV_exit ?_ | refine EV_ret ?_ | (simp only [thenP, blockP, scopeP, if_true, reduceIte, reduceCtorEq, if_false, Nat.reduceEqDiff]; apply_assumption -exfalso)))
      (apply EV_cond; exact rfl; all_goals intro h)
      rotate_left 1
      · exfalso; simp at h; omega
      clear h
      (repeat (first | (refine EV_seq ?_; intro K hK) | refine EV_block ?_ | ((refine EV_region E_ok ?_; intro R hR fr; simp only [push_cast, bne_self_eq_false, simprocAttr]; (try (simp (disch := omega) only [i64_in', sub_elt, sub_elt0, getD_map2]; (try simp only [push_cast, bne_self_eq_false, simprocAttr])))); (repeat ((with_reducible apply And.intro); focus (first | (intro hA; exact ⟨hA, fun hB => (by first | (rw [hA, hB]; rfl) | simp_all)⟩) | omega | decide | (simp; done) | (simp; omega) | (intro hA; (repeat' apply And.intro) <;> first | exact hA | omega)))); apply_assumption -exfalso) | refine EV_skip ?_ | refine EV_scope ?_ | refine EV_label ?_ | refine EV_exit ?_ | refine EV_ret ?_ | (simp only [thenP, blockP, scopeP, if_true, reduceIte, reduceCtorEq, if_false, Nat.reduceEqDiff]; apply_assumption -exfalso)))
      (simp only [thenP, blockP, scopeP, if_true, reduceIte, reduceCtorEq, if_false]; refine ⟨n + 1, ?_, ?_, (by first | (simp [wkS, lkp, List.take_length]; done) | repeat (first | exact trivial | refine And.intro (by first | rfl | (simp only [lkp, push_cast, bne_self_eq_false, simprocAttr]; done) | (simp [lkp]; done)) ?_)), (by first | (simp only [push_cast, List.take_length, List.take_append_of_le_length, bne_self_eq_false, simprocAttr]; done) | (simp [updX, updH, setX]; done))⟩)
      · refine ⟨by omega, fun j hj => ?_⟩
        rcases Nat.lt_or_eq_of_le (Nat.le_of_lt_succ hj) with a | a
        · exact hun j a
        · rw [a]; exact hb
      · omega
  · obtain rfl : n = 16 := by omega
    have hfz := least_eq ht hu hn hun (.inl rfl)
    have c2 := ec_table_Put t (semS i) (by omega)
    rw [put_full ht hsm rfl hfz] at c2
    simp only [updX, updH, setX, keepS, lkp, Nat.reduceEqDiff, if_true, if_false, reduceIte, List.cons_append, List.nil_append, List.take_succ_cons, List.take_zero, List.append_nil]
    (repeat (first | (refine EV_seq ?_; intro K hK) | refine EV_block ?_ | ((refine EV_region E_ok ?_; intro R hR fr; simp only [push_cast, bne_self_eq_false, simprocAttr]; (try (simp (disch := omega) only [i64_in', sub_elt, sub_elt0, getD_map2]; (try simp only [push_cast, bne_self_eq_false, simprocAttr])))); (repeat ((with_reducible apply And.intro); focus (first | (intro hA; exact ⟨hA, fun hB => (by first | (rw [hA, hB]; rfl) | simp_all)⟩) | omega | decide | (simp; done) | (simp; omega) | (intro hA; (repeat' apply And.intro) <;> first | exact hA | omega)))); apply_assumption -exfalso) | refine EV_skip ?_ | refine EV_scope ?_ | refine EV_label ?_ | refine EV_exit ?_ | refine EV_ret ?_ | (simp only [thenP, blockP, scopeP, if_true, reduceIte, reduceCtorEq, if_false, Nat.reduceEqDiff]; apply_assumption -exfalso)))
    (apply EV_cond; exact rfl; all_goals intro h)
    · simp at h
    clear h
    (repeat (first | (refine EV_seq ?_; intro K hK) | refine EV_block ?_ | ((refine EV_region E_ok ?_; intro R hR fr; simp only [push_cast, bne_self_eq_false, simprocAttr]; (try (simp (disch := omega) only [i64_in', sub_elt, sub_elt0, getD_map2]; (try simp only [push_cast, bne_self_eq_false, simprocAttr])))); (repeat ((with_reducible apply And.intro); focus (first | (intro hA; exact ⟨hA, fun hB => (by first | (rw [hA, hB]; rfl) | simp_all)⟩) | omega | decide | (simp; done) | (simp; omega) | (intro hA; (repeat' apply And.intro) <;> first | exact hA | omega)))); apply_assumption -exfalso) | refine EV_skip ?_ | refine EV_scope ?_ | refine EV_label ?_ | refine EV_exit ?_ | refine EV_ret ?_ | (simp only [thenP, blockP, scopeP, if_true, reduceIte, reduceCtorEq, if_false, Nat.reduceEqDiff]; apply_assumption -exfalso)))
    ((refine EV_region E_ok ?_; intro R hR fr; simp only [push_cast, bne_self_eq_false, simprocAttr]; (try (simp (disch := omega) only [i64_in', sub_elt, sub_elt0, getD_map2]; (try simp only [push_cast, bne_self_eq_false, simprocAttr])))); (repeat ((with_reducible apply And.intro); focus (first | (intro hA; exact ⟨hA, fun hB => (by first | (rw [hA, hB]; rfl) | simp_all)⟩) | omega | decide | (simp; done) | (simp; omega) | (intro hA; (repeat' apply And.intro) <;> first | exact hA | omega)))))
    (refine EC.use (c2) ?_; (try simp only [hg]); refine EO_run E_ok _ 0 _ _ ?_; intro fr; simp only [push_cast, bne_self_eq_false, simprocAttr]; (try (simp (disch := omega) only [i64_in', sub_elt, sub_elt0, getD_map2]; (try simp only [push_cast, bne_self_eq_false, simprocAttr]))); (repeat ((with_reducible apply And.intro); focus (first | (intro hA; exact ⟨hA, fun hB => (by first | (rw [hA, hB]; rfl) | simp_all)⟩) | omega | decide | (simp; done) | (simp; omega) | (intro hA; (repeat' apply And.intro) <;> first | exact hA | omega)))); (try apply_assumption -exfalso))
    (repeat (first | (refine EV_seq ?_; intro K hK) | refine EV_block ?_ | ((refine EV_region E_ok ?_; intro R hR fr; simp only [push_cast, bne_self_eq_false, simprocAttr]; (try (simp (disch := omega) only [i64_in', sub_elt, sub_elt0, getD_map2]; (try simp only [push_cast, bne_self_eq_false, simprocAttr])))); (repeat ((with_reducible apply And.intro); focus (first | (intro hA; exact ⟨hA, fun hB => (by first | (rw [hA, hB]; rfl) | simp_all)⟩) | omega | decide | (simp; done) | (simp; omega) | (intro hA; (repeat' apply And.intro) <;> first | exact hA | omega)))); apply_assumption -exfalso) | refine EV_skip ?_ | refine EV_scope ?_ | refine EV_label ?_ | refine EV_exit ?_ | refine EV_ret ?_ | (simp only [thenP, blockP, scopeP, if_true, reduceIte, reduceCtorEq, if_false, Nat.reduceEqDiff]; apply_assumption -exfalso)))
    (apply EV_cond; exact rfl; all_goals intro h)
    rotate_left 1
    · simp at h
    clear h
    (repeat (first | (refine EV_seq ?_; intro K hK) | refine EV_block ?_ | ((refine EV_region E_ok ?_; intro R hR fr; simp only [push_cast, bne_self_eq_false, simprocAttr]; (try (simp (disch := omega) only [i64_in', sub_elt, sub_elt0, getD_map2]; (try simp only [push_cast, bne_self_eq_false, simprocAttr])))); (repeat ((with_reducible apply And.intro); focus (first | (intro hA; exact ⟨hA, fun hB => (by first | (rw [hA, hB]; rfl) | simp_all)⟩) | omega | decide | (simp; done) | (simp; omega) | (intro hA; (repeat' apply And.intro) <;> first | exact hA | omega)))); apply_assumption -exfalso) | refine EV_skip ?_ | refine EV_scope ?_ | refine EV_label ?_ | refine EV_exit ?_ | refine EV_ret ?_ | (simp only [thenP, blockP, scopeP, if_true, reduceIte, reduceCtorEq, if_false, Nat.reduceEqDiff]; apply_assumption -exfalso)))
    (apply EV_cond; exact rfl; all_goals intro h)
    · simp at h
    clear h
    (repeat (first | (refine EV_seq ?_; intro K hK) | refine EV_block ?_ | ((refine EV_region E_ok ?_; intro R hR fr; simp only [push_cast, bne_self_eq_false, simprocAttr]; (try (simp (disch := omega) only [i64_in', sub_elt, sub_elt0, getD_map2]; (try simp only [push_cast, bne_self_eq_false, simprocAttr])))); (repeat ((with_reducible apply And.intro); focus (first | (intro hA; exact ⟨hA, fun hB => (by first | (rw [hA, hB]; rfl) | simp_all)⟩) | omega | decide | (simp; done) | (simp; omega) | (intro hA; (repeat' apply And.intro) <;> first | exact hA | omega)))); apply_assumption -exfalso) | refine EV_skip ?_ | refine EV_scope ?_ | refine EV_label ?_ | refine EV_exit ?_ | refine EV_ret ?_ | (simp only [thenP, blockP, scopeP, if_true, reduceIte, reduceCtorEq, if_false, Nat.reduceEqDiff]; apply_assumption -exfalso)))
    (simp only [thenP, blockP, scopeP, if_true, reduceIte, reduceCtorEq, if_false]; refine ⟨(i + 1, t, u), ?_, ?_, (by first | (simp [wkS, lkp, List.take_length]; done) | repeat (first | exact trivial | refine And.intro (by first | rfl | (simp only [lkp, push_cast, bne_self_eq_false, simprocAttr]; done) | (simp [lkp]; done)) ?_)), (by first | (simp only [push_cast, List.take_length, List.take_append_of_le_length, bne_self_eq_false, simprocAttr]; done) | (simp [updX, updH, setX]; done))⟩)
    · exact ⟨by dsimp only; omega, by dsimp only; omega, ht, hu⟩
    · dsimp only; omega
end Go.Proofs.Ytbahpkjfgoeohaa
