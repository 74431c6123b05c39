-- SG
/- Tables of descriptors: put and clear. -/
import Derived.Test.YtbahpkjfgoeohaaUTableB
namespace Go.Proofs.Ytbahpkjfgoeohaa
open Go.Lift
set_option linter.unusedSimpArgs false
set_option linter.unusedVariables false
set_option maxRecDepth 10000
theorem LFz.slot {m : Nat} {B : List Own} {o : GSlot} {r r' : List SV} (hr : LFz m B r r') : LFz m B (.agg o.c :: r) (.agg o.c :: r') := by
  refine .cons (by simp only [frzKT, frzKA, GSlot.fk]) ?_ hr
  simp only [frzT, frzA, GSlot.fz]
  exact SLe.refl _
def fz (t : List GSlot) : Nat := t.findIdx fun x => x.Kind == 0
theorem fz_le (t : List GSlot) : fz t ≤ t.length := List.findIdx_le_length
theorem idxP_find {α : Type} (p : α → Bool) (l : List α) : ∀ i, idxP p i l = if l.findIdx p < l.length then ((i + l.findIdx p : Nat) : Int) else -1 := by
  induction l with
  | nil => intro i; simp [idxP]
  | cons y t ih =>
    intro i
    rw [idxP, List.findIdx_cons]
    cases hp : p y with
    | true => simp
    | false =>
      simp only [Bool.false_eq_true, if_false, cond_false, ih, List.length_cons, Nat.add_lt_add_iff_right]
      split
      · congr 1; omega
      · rfl
theorem findIdx_congr' {α : Type} {p q : α → Bool} {l : List α} (h : ∀ x ∈ l, p x = q x) : l.findIdx p = l.findIdx q := by
  induction l with
  | nil => rfl
  | cons y t ih =>
    rw [List.findIdx_cons, List.findIdx_cons, h y (by simp), ih fun x hx => h x (by simp [hx])]
theorem slOk_zero {s : GSlot} (h : slOk s = true) : (default == s) = (s.Kind == 0) := by
  by_cases hk : (s.Kind == 0) = true
  · rw [slOk, if_pos hk] at h
    have : s = default := by simpa using h
    subst this; rfl
  · have : ¬ default = s := fun e => hk (by rw [← e]; rfl)
    rw [show (s.Kind == 0) = false by simpa using hk]
    simpa using this
theorem idx_fz {t : List GSlot} (h : t.all slOk = true) : idxP (fun q => default == q) 0 t = if fz t < t.length then ((fz t : Nat) : Int) else -1 := by
  rw [idxP_find]
  have : t.findIdx (fun q => default == q) = fz t := findIdx_congr' fun x hx => slOk_zero (List.all_eq_true.1 h x hx)
  rw [this, Nat.zero_add]
def putAt (t : List GSlot) (s : GSlot) : List GSlot := if fz t < t.length then t.set (fz t) s else t ++ [s]
def tbPut (t : List GSlot) (s : GSlot) : List GSlot × Int × Int :=
  if (!tbOk t || !slOk s || s.Kind == 0) = true then ([], 0, 1) else if fz t = 16 then ([], 0, 3) else (putAt t s, (fz t : Int), 0)
def sl3 (x : List GSlot × Int × Int) : SV := .tup [slL 4 GSlot.c default x.1, .int .i64 x.2.1, .int .i64 x.2.2]
theorem tbOk_len {t : List GSlot} (h : tbOk t = true) : t.length ≤ 16 ∧ t.all slOk = true := by
  simp only [tbOk, Bool.and_eq_true, decide_eq_true_eq] at h
  exact ⟨by omega, h.1.1⟩
theorem ec_table_Put (t : List GSlot) (s : GSlot) (hl : t.length ≤ 1000000) : EC Try.prog 43 [slL 4 GSlot.c default t, .agg s.c] [] fun r N => N = [] ∧ r = sl3 (tbPut t s) := by
  refine EC.fin (EC.enter E_ok call_43 Try.func43 rfl (by simp [Try.ntmps43]) ?_)
  simp only [Try.ntmps43, Try.results43, bindA]
  (repeat (first | (refine EV_seq ?_; intro K hK) | refine EV_block ?_ | ((refine EV_region E_ok ?_; intro R hR fr; simp only [push_cast, bne_self_eq_false, simprocAttr]; (try (simp (disch := omega) only [i64_in', sub_elt, sub_elt0, getD_map2]; (try simp only [push_cast, bne_self_eq_false, simprocAttr])))); (repeat ((with_reducible apply And.intro); focus (first | (intro hA; exact ⟨hA, fun hB => (by first | (rw [hA, hB]; rfl) | simp_all)⟩) | omega | decide | (simp; done) | (simp; omega) | (intro hA; (repeat' apply And.intro) <;> first | exact hA | omega)))); apply_assumption -exfalso) | refine EV_skip ?_ | refine EV_scope ?_ | refine EV_label ?_ | refine EV_exit ?_ | refine EV_ret ?_ | (simp only [thenP, blockP, scopeP, if_true, reduceIte, reduceCtorEq, if_false, Nat.reduceEqDiff]; apply_assumption -exfalso)))
  ((refine EV_region E_ok ?_; intro R hR fr; simp only [push_cast, bne_self_eq_false, simprocAttr]; (try (simp (disch := omega) only [i64_in', sub_elt, sub_elt0, getD_map2]; (try simp only [push_cast, bne_self_eq_false, simprocAttr])))); (repeat ((with_reducible apply And.intro); focus (first | (intro hA; exact ⟨hA, fun hB => (by first | (rw [hA, hB]; rfl) | simp_all)⟩) | omega | decide | (simp; done) | (simp; omega) | (intro hA; (repeat' apply And.intro) <;> first | exact hA | omega)))))
  (refine EC.use (ec_table_Valid t hl) ?_; (try simp only [hg]); refine EO_run E_ok _ 0 _ _ ?_; intro fr; simp only [push_cast, bne_self_eq_false, simprocAttr]; (try (simp (disch := omega) only [i64_in', sub_elt, sub_elt0, getD_map2]; (try simp only [push_cast, bne_self_eq_false, simprocAttr]))); (repeat ((with_reducible apply And.intro); focus (first | (intro hA; exact ⟨hA, fun hB => (by first | (rw [hA, hB]; rfl) | simp_all)⟩) | omega | decide | (simp; done) | (simp; omega) | (intro hA; (repeat' apply And.intro) <;> first | exact hA | omega)))); (try apply_assumption -exfalso))
  refine ⟨fun hg => ?_, fun hg => ?_⟩
  rotate_left 1
  · have hg0 : tbOk t = false := by simpa using hg
    ((try simp only [hg]); refine EO_run E_ok _ 0 _ _ ?_; intro fr; simp only [push_cast, bne_self_eq_false, simprocAttr]; (try (simp (disch := omega) only [i64_in', sub_elt, sub_elt0, getD_map2]; (try simp only [push_cast, bne_self_eq_false, simprocAttr]))); (repeat ((with_reducible apply And.intro); focus (first | (intro hA; exact ⟨hA, fun hB => (by first | (rw [hA, hB]; rfl) | simp_all)⟩) | omega | decide | (simp; done) | (simp; omega) | (intro hA; (repeat' apply And.intro) <;> first | exact hA | omega)))); (try apply_assumption -exfalso))
    (repeat (first | (refine EV_seq ?_; intro K hK) | refine EV_block ?_ | ((refine EV_region E_ok ?_; intro R hR fr; simp only [push_cast, bne_self_eq_false, simprocAttr]; (try (simp (disch := omega) only [i64_in', sub_elt, sub_elt0, getD_map2]; (try simp only [push_cast, bne_self_eq_false, simprocAttr])))); (repeat ((with_reducible apply And.intro); focus (first | (intro hA; exact ⟨hA, fun hB => (by first | (rw [hA, hB]; rfl) | simp_all)⟩) | omega | decide | (simp; done) | (simp; omega) | (intro hA; (repeat' apply And.intro) <;> first | exact hA | omega)))); apply_assumption -exfalso) | refine EV_skip ?_ | refine EV_scope ?_ | refine EV_label ?_ | refine EV_exit ?_ | refine EV_ret ?_ | (simp only [thenP, blockP, scopeP, if_true, reduceIte, reduceCtorEq, if_false, Nat.reduceEqDiff]; apply_assumption -exfalso)))
    (apply EV_cond; exact rfl; all_goals intro h)
    · (repeat (first | (refine EV_seq ?_; intro K hK) | refine EV_block ?_ | ((refine EV_region E_ok ?_; intro R hR fr; simp only [push_cast, bne_self_eq_false, simprocAttr]; (try (simp (disch := omega) only [i64_in', sub_elt, sub_elt0, getD_map2]; (try simp only [push_cast, bne_self_eq_false, simprocAttr])))); (repeat ((with_reducible apply And.intro); focus (first | (intro hA; exact ⟨hA, fun hB => (by first | (rw [hA, hB]; rfl) | simp_all)⟩) | omega | decide | (simp; done) | (simp; omega) | (intro hA; (repeat' apply And.intro) <;> first | exact hA | omega)))); apply_assumption -exfalso) | refine EV_skip ?_ | refine EV_scope ?_ | refine EV_label ?_ | refine EV_exit ?_ | refine EV_ret ?_ | (simp only [thenP, blockP, scopeP, if_true, reduceIte, reduceCtorEq, if_false, Nat.reduceEqDiff]; apply_assumption -exfalso)))
      simp only [push_cast, thenP, blockP, scopeP, retP, evR, evRes, evRes1, Nat.zero_lt_one, Nat.reduceEqDiff, Nat.reduceLT, Nat.reduceAdd, Nat.reduceLeDiff, reduceIte, reduceCtorEq]
      rw [show sl3 (tbPut t s) = .tup [slL 4 GSlot.c default [], .int .i64 0, .int .i64 1] by simp only [tbPut, hg0, Bool.not_false, Bool.true_or, if_true, sl3]]
      exact fin_t3 FzA.nil FzA.int FzA.int
    · simp [hg0] at h
  have hok : tbOk t = true := by simpa using hg
  obtain ⟨ht16, hall⟩ := tbOk_len hok
  (refine EC.use (ec_table_fine s) ?_; (try simp only [hg]); refine EO_run E_ok _ 0 _ _ ?_; intro fr; simp only [push_cast, bne_self_eq_false, simprocAttr]; (try (simp (disch := omega) only [i64_in', sub_elt, sub_elt0, getD_map2]; (try simp only [push_cast, bne_self_eq_false, simprocAttr]))); (repeat ((with_reducible apply And.intro); focus (first | (intro hA; exact ⟨hA, fun hB => (by first | (rw [hA, hB]; rfl) | simp_all)⟩) | omega | decide | (simp; done) | (simp; omega) | (intro hA; (repeat' apply And.intro) <;> first | exact hA | omega)))); (try apply_assumption -exfalso))
  (repeat (first | (refine EV_seq ?_; intro K hK) | refine EV_block ?_ | ((refine EV_region E_ok ?_; intro R hR fr; simp only [push_cast, bne_self_eq_false, simprocAttr]; (try (simp (disch := omega) only [i64_in', sub_elt, sub_elt0, getD_map2]; (try simp only [push_cast, bne_self_eq_false, simprocAttr])))); (repeat ((with_reducible apply And.intro); focus (first | (intro hA; exact ⟨hA, fun hB => (by first | (rw [hA, hB]; rfl) | simp_all)⟩) | omega | decide | (simp; done) | (simp; omega) | (intro hA; (repeat' apply And.intro) <;> first | exact hA | omega)))); apply_assumption -exfalso) | refine EV_skip ?_ | refine EV_scope ?_ | refine EV_label ?_ | refine EV_exit ?_ | refine EV_ret ?_ | (simp only [thenP, blockP, scopeP, if_true, reduceIte, reduceCtorEq, if_false, Nat.reduceEqDiff]; apply_assumption -exfalso)))
  (apply EV_cond; exact rfl; all_goals intro h)
  · (repeat (first | (refine EV_seq ?_; intro K hK) | refine EV_block ?_ | ((refine EV_region E_ok ?_; intro R hR fr; simp only [push_cast, bne_self_eq_false, simprocAttr]; (try (simp (disch := omega) only [i64_in', sub_elt, sub_elt0, getD_map2]; (try simp only [push_cast, bne_self_eq_false, simprocAttr])))); (repeat ((with_reducible apply And.intro); focus (first | (intro hA; exact ⟨hA, fun hB => (by first | (rw [hA, hB]; rfl) | simp_all)⟩) | omega | decide | (simp; done) | (simp; omega) | (intro hA; (repeat' apply And.intro) <;> first | exact hA | omega)))); apply_assumption -exfalso) | refine EV_skip ?_ | refine EV_scope ?_ | refine EV_label ?_ | refine EV_exit ?_ | refine EV_ret ?_ | (simp only [thenP, blockP, scopeP, if_true, reduceIte, reduceCtorEq, if_false, Nat.reduceEqDiff]; apply_assumption -exfalso)))
    simp only [push_cast, thenP, blockP, scopeP, retP, evR, evRes, evRes1, Nat.zero_lt_one, Nat.reduceEqDiff, Nat.reduceLT, Nat.reduceAdd, Nat.reduceLeDiff, reduceIte, reduceCtorEq]
    rw [show sl3 (tbPut t s) = .tup [slL 4 GSlot.c default [], .int .i64 0, .int .i64 1] by simp only [tbPut, hok, Bool.not_true, Bool.false_or, h, if_true, sl3]]
    exact fin_t3 FzA.nil FzA.int FzA.int
  have h0 := h
  clear h
  (repeat (first | (refine EV_seq ?_; intro K hK) | refine EV_block ?_ | ((refine EV_region E_ok ?_; intro R hR fr; simp only [push_cast, bne_self_eq_false, simprocAttr]; (try (simp (disch := omega) only [i64_in', sub_elt, sub_elt0, getD_map2]; (try simp only [push_cast, bne_self_eq_false, simprocAttr])))); (repeat ((with_reducible apply And.intro); focus (first | (intro hA; exact ⟨hA, fun hB => (by first | (rw [hA, hB]; rfl) | simp_all)⟩) | omega | decide | (simp; done) | (simp; omega) | (intro hA; (repeat' apply And.intro) <;> first | exact hA | omega)))); apply_assumption -exfalso) | refine EV_skip ?_ | refine EV_scope ?_ | refine EV_label ?_ | refine EV_exit ?_ | refine EV_ret ?_ | (simp only [thenP, blockP, scopeP, if_true, reduceIte, reduceCtorEq, if_false, Nat.reduceEqDiff]; apply_assumption -exfalso)))
  ((refine EV_region E_ok ?_; intro R hR fr; simp only [push_cast, bne_self_eq_false, simprocAttr]; (try (simp (disch := omega) only [i64_in', sub_elt, sub_elt0, getD_map2]; (try simp only [push_cast, bne_self_eq_false, simprocAttr])))); (repeat ((with_reducible apply And.intro); focus (first | (intro hA; exact ⟨hA, fun hB => (by first | (rw [hA, hB]; rfl) | simp_all)⟩) | omega | decide | (simp; done) | (simp; omega) | (intro hA; (repeat' apply And.intro) <;> first | exact hA | omega)))))
  (refine EC.useN (ec_clone_SlotM t hl) (fun _ _ => SLe.row) ?_; rintro hh -; (try simp only [hg]); refine EO_run E_ok _ 0 _ _ ?_; intro fr; simp only [push_cast, bne_self_eq_false, simprocAttr]; (try (simp (disch := omega) only [i64_in', sub_elt, sub_elt0, getD_map2]; (try simp only [push_cast, bne_self_eq_false, simprocAttr]))); (repeat ((with_reducible apply And.intro); focus (first | (intro hA; exact ⟨hA, fun hB => (by first | (rw [hA, hB]; rfl) | simp_all)⟩) | omega | decide | (simp; done) | (simp; omega) | (intro hA; (repeat' apply And.intro) <;> first | exact hA | omega)))); (try apply_assumption -exfalso))
  (repeat (first | (refine EV_seq ?_; intro K hK) | refine EV_block ?_ | ((refine EV_region E_ok ?_; intro R hR fr; simp only [push_cast, bne_self_eq_false, simprocAttr]; (try (simp (disch := omega) only [i64_in', sub_elt, sub_elt0, getD_map2]; (try simp only [push_cast, bne_self_eq_false, simprocAttr])))); (repeat ((with_reducible apply And.intro); focus (first | (intro hA; exact ⟨hA, fun hB => (by first | (rw [hA, hB]; rfl) | simp_all)⟩) | omega | decide | (simp; done) | (simp; omega) | (intro hA; (repeat' apply And.intro) <;> first | exact hA | omega)))); apply_assumption -exfalso) | refine EV_skip ?_ | refine EV_scope ?_ | refine EV_label ?_ | refine EV_exit ?_ | refine EV_ret ?_ | (simp only [thenP, blockP, scopeP, if_true, reduceIte, reduceCtorEq, if_false, Nat.reduceEqDiff]; apply_assumption -exfalso)))
  ((refine EV_region E_ok ?_; intro R hR fr; simp only [push_cast, bne_self_eq_false, simprocAttr]; (try (simp (disch := omega) only [i64_in', sub_elt, sub_elt0, getD_map2]; (try simp only [push_cast, bne_self_eq_false, simprocAttr])))); (repeat ((with_reducible apply And.intro); focus (first | (intro hA; exact ⟨hA, fun hB => (by first | (rw [hA, hB]; rfl) | simp_all)⟩) | omega | decide | (simp; done) | (simp; omega) | (intro hA; (repeat' apply And.intro) <;> first | exact hA | omega)))))
  refine EC.lend (ec_index_SL t default hl) (LFz.rowS rfl rfl rfl (LFz.slot .nil)) (by rintro _ rfl; rfl) ?_
  rintro _ rfl
  ((try simp only [hg]); refine EO_run E_ok _ 0 _ _ ?_; intro fr; simp only [push_cast, bne_self_eq_false, simprocAttr]; (try (simp (disch := omega) only [i64_in', sub_elt, sub_elt0, getD_map2]; (try simp only [push_cast, bne_self_eq_false, simprocAttr]))); (repeat ((with_reducible apply And.intro); focus (first | (intro hA; exact ⟨hA, fun hB => (by first | (rw [hA, hB]; rfl) | simp_all)⟩) | omega | decide | (simp; done) | (simp; omega) | (intro hA; (repeat' apply And.intro) <;> first | exact hA | omega)))); (try apply_assumption -exfalso))
  (repeat (first | (refine EV_seq ?_; intro K hK) | refine EV_block ?_ | ((refine EV_region E_ok ?_; intro R hR fr; simp only [push_cast, bne_self_eq_false, simprocAttr]; (try (simp (disch := omega) only [i64_in', sub_elt, sub_elt0, getD_map2]; (try simp only [push_cast, bne_self_eq_false, simprocAttr])))); (repeat ((with_reducible apply And.intro); focus (first | (intro hA; exact ⟨hA, fun hB => (by first | (rw [hA, hB]; rfl) | simp_all)⟩) | omega | decide | (simp; done) | (simp; omega) | (intro hA; (repeat' apply And.intro) <;> first | exact hA | omega)))); apply_assumption -exfalso) | refine EV_skip ?_ | refine EV_scope ?_ | refine EV_label ?_ | refine EV_exit ?_ | refine EV_ret ?_ | (simp only [thenP, blockP, scopeP, if_true, reduceIte, reduceCtorEq, if_false, Nat.reduceEqDiff]; apply_assumption -exfalso)))
  have hix := idx_fz hall
  have hfl := fz_le t
  by_cases hf : fz t < t.length
  · rw [if_pos hf] at hix
    simp only [hix]
    (apply EV_cond; exact rfl; all_goals intro h)
    · simp at h; omega
    clear h
    (repeat (first | (refine EV_seq ?_; intro K hK) | refine EV_block ?_ | ((refine EV_region E_ok ?_; intro R hR fr; simp only [push_cast, bne_self_eq_false, simprocAttr]; (try (simp (disch := omega) only [i64_in', sub_elt, sub_elt0, getD_map2]; (try simp only [push_cast, bne_self_eq_false, simprocAttr])))); (repeat ((with_reducible apply And.intro); focus (first | (intro hA; exact ⟨hA, fun hB => (by first | (rw [hA, hB]; rfl) | simp_all)⟩) | omega | decide | (simp; done) | (simp; omega) | (intro hA; (repeat' apply And.intro) <;> first | exact hA | omega)))); apply_assumption -exfalso) | refine EV_skip ?_ | refine EV_scope ?_ | refine EV_label ?_ | refine EV_exit ?_ | refine EV_ret ?_ | (simp only [thenP, blockP, scopeP, if_true, reduceIte, reduceCtorEq, if_false, Nat.reduceEqDiff]; apply_assumption -exfalso)))
    (apply EV_cond; exact rfl; all_goals intro h)
    · simp at h; omega
    clear h
    (repeat (first | (refine EV_seq ?_; intro K hK) | refine EV_block ?_ | ((refine EV_region E_ok ?_; intro R hR fr; simp only [push_cast, bne_self_eq_false, simprocAttr]; (try (simp (disch := omega) only [i64_in', sub_elt, sub_elt0, getD_map2]; (try simp only [push_cast, bne_self_eq_false, simprocAttr])))); (repeat ((with_reducible apply And.intro); focus (first | (intro hA; exact ⟨hA, fun hB => (by first | (rw [hA, hB]; rfl) | simp_all)⟩) | omega | decide | (simp; done) | (simp; omega) | (intro hA; (repeat' apply And.intro) <;> first | exact hA | omega)))); apply_assumption -exfalso) | refine EV_skip ?_ | refine EV_scope ?_ | refine EV_label ?_ | refine EV_exit ?_ | refine EV_ret ?_ | (simp only [thenP, blockP, scopeP, if_true, reduceIte, reduceCtorEq, if_false, Nat.reduceEqDiff]; apply_assumption -exfalso)))
    simp only [push_cast, thenP, blockP, scopeP, retP, evR, evRes, evRes1, Nat.zero_lt_one, Nat.reduceEqDiff, Nat.reduceLT, Nat.reduceAdd, Nat.reduceLeDiff, reduceIte, reduceCtorEq]
    rw [show sl3 (tbPut t s) = .tup [slL 4 GSlot.c default (t.set (fz t) s), .int .i64 (fz t), .int .i64 0] by simp only [tbPut, putAt, hok, Bool.not_true, Bool.false_or, h0, Bool.false_eq_true, if_false, if_neg (show ¬ fz t = 16 by omega), if_pos hf, sl3]]
    exact fin_t3 (FzA.row (cells := GSlot.c) (d := default) rfl (by simp [List.map_set]) (by simp)) FzA.int FzA.int
  · rw [if_neg hf] at hix
    have hfe : fz t = t.length := by omega
    simp only [hix]
    (apply EV_cond; exact rfl; all_goals intro h)
    rotate_left 1
    · simp at h
    clear h
    (repeat (first | (refine EV_seq ?_; intro K hK) | refine EV_block ?_ | ((refine EV_region E_ok ?_; intro R hR fr; simp only [push_cast, bne_self_eq_false, simprocAttr]; (try (simp (disch := omega) only [i64_in', sub_elt, sub_elt0, getD_map2]; (try simp only [push_cast, bne_self_eq_false, simprocAttr])))); (repeat ((with_reducible apply And.intro); focus (first | (intro hA; exact ⟨hA, fun hB => (by first | (rw [hA, hB]; rfl) | simp_all)⟩) | omega | decide | (simp; done) | (simp; omega) | (intro hA; (repeat' apply And.intro) <;> first | exact hA | omega)))); apply_assumption -exfalso) | refine EV_skip ?_ | refine EV_scope ?_ | refine EV_label ?_ | refine EV_exit ?_ | refine EV_ret ?_ | (simp only [thenP, blockP, scopeP, if_true, reduceIte, reduceCtorEq, if_false, Nat.reduceEqDiff]; apply_assumption -exfalso)))
    (apply EV_cond; exact rfl; all_goals intro h)
    · have h16 : fz t = 16 := by simp at h; omega
      (repeat (first | (refine EV_seq ?_; intro K hK) | refine EV_block ?_ | ((refine EV_region E_ok ?_; intro R hR fr; simp only [push_cast, bne_self_eq_false, simprocAttr]; (try (simp (disch := omega) only [i64_in', sub_elt, sub_elt0, getD_map2]; (try simp only [push_cast, bne_self_eq_false, simprocAttr])))); (repeat ((with_reducible apply And.intro); focus (first | (intro hA; exact ⟨hA, fun hB => (by first | (rw [hA, hB]; rfl) | simp_all)⟩) | omega | decide | (simp; done) | (simp; omega) | (intro hA; (repeat' apply And.intro) <;> first | exact hA | omega)))); apply_assumption -exfalso) | refine EV_skip ?_ | refine EV_scope ?_ | refine EV_label ?_ | refine EV_exit ?_ | refine EV_ret ?_ | (simp only [thenP, blockP, scopeP, if_true, reduceIte, reduceCtorEq, if_false, Nat.reduceEqDiff]; apply_assumption -exfalso)))
      simp only [push_cast, thenP, blockP, scopeP, retP, evR, evRes, evRes1, Nat.zero_lt_one, Nat.reduceEqDiff, Nat.reduceLT, Nat.reduceAdd, Nat.reduceLeDiff, reduceIte, reduceCtorEq]
      rw [show sl3 (tbPut t s) = .tup [slL 4 GSlot.c default [], .int .i64 0, .int .i64 3] by simp only [tbPut, hok, Bool.not_true, Bool.false_or, h0, Bool.false_eq_true, if_false, if_pos h16, sl3]]
      exact fin_t3 FzA.nil FzA.int FzA.int
    · have h16 : ¬ fz t = 16 := by simp at h; omega
      clear h
      (repeat (first | (refine EV_seq ?_; intro K hK) | refine EV_block ?_ | ((refine EV_region E_ok ?_; intro R hR fr; simp only [push_cast, bne_self_eq_false, simprocAttr]; (try (simp (disch := omega) only [i64_in', sub_elt, sub_elt0, getD_map2]; (try simp only [push_cast, bne_self_eq_false, simprocAttr])))); (repeat ((with_reducible apply And.intro); focus (first | (intro hA; exact ⟨hA, fun hB => (by first | (rw [hA, hB]; rfl) | simp_all)⟩) | omega | decide | (simp; done) | (simp; omega) | (intro hA; (repeat' apply And.intro) <;> first | exact hA | omega)))); apply_assumption -exfalso) | refine EV_skip ?_ | refine EV_scope ?_ | refine EV_label ?_ | refine EV_exit ?_ | refine EV_ret ?_ | (simp only [thenP, blockP, scopeP, if_true, reduceIte, reduceCtorEq, if_false, Nat.reduceEqDiff]; apply_assumption -exfalso)))
      simp only [push_cast, thenP, blockP, scopeP, retP, evR, evRes, evRes1, Nat.zero_lt_one, Nat.reduceEqDiff, Nat.reduceLT, Nat.reduceAdd, Nat.reduceLeDiff, reduceIte, reduceCtorEq]
      rw [show tbPut t s = (t ++ [s], (t.length : Int), 0) by simp only [tbPut, putAt, hok, Bool.not_true, Bool.false_or, h0, Bool.false_eq_true, if_false, if_neg h16, if_neg hf]; rw [hfe]]
      exact fin_t3 (FzA.row (cells := GSlot.c) (d := default) rfl (by simp [GSlot.q]) (by simp)) FzA.int FzA.int
end Go.Proofs.Ytbahpkjfgoeohaa
