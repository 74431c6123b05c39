/- Numbers that are drawn one after another. -/
import Derived.Test.YtbahpkjfgoeohaaSBase
namespace Go.Proofs.Ytbahpkjfgoeohaa
open Go.Lift
set_option linter.unusedSimpArgs false
set_option linter.unusedVariables false
set_option maxRecDepth 10000
def wfD (d : GDice) : Prop := d.l.length ≤ 400 ∧ ∀ y ∈ d.l, 0 ≤ y ∧ y ≤ 255
abbrev dRow (h : RowH) (d : GDice) : Own := .row h 108 1 [GDice.c d]
theorem tmod_le {y n : Int} (hy : 0 ≤ y) (hn : 0 ≤ n) : y.tmod n ≤ y := by
  obtain ⟨a, rfl⟩ := Int.eq_ofNat_of_zero_le hy
  obtain ⟨b, rfl⟩ := Int.eq_ofNat_of_zero_le hn
  rw [show ((a : Int).tmod b) = ((a % b : Nat) : Int) from rfl]
  exact_mod_cast Nat.mod_le a b
theorem ec_dice_New (l : List Int) : EC Try.prog 32 [.sl false 1 l.length (elt (intC .u8) default l)] [] fun r N => ∃ h, r = .rptr 0 h 1 0 0 ∧ N = [dRow h { l := l.take 400 }] := by
  refine EC.close 1 (EC.enter E_ok call_32 Try.func32 rfl (by simp [Try.ntmps32]) ?_)
  simp only [Try.ntmps32, Try.results32, bindA]
  (repeat (first | (refine EV_seq ?_; intro K hK) | refine EV_block ?_ | ((refine EV_region E_ok ?_; intro R hR fr; simp only [push_cast, bne_self_eq_false, simprocAttr]; (try (simp (disch := omega) only [i64_in', sub_elt, sub_elt0, getD_map2]; (try simp only [push_cast, bne_self_eq_false, simprocAttr])))); (repeat ((with_reducible apply And.intro); focus (first | (intro hA; exact ⟨hA, fun hB => (by rw [hA, hB]; rfl)⟩) | omega | decide | (simp; done) | (simp; omega)))); apply_assumption -exfalso) | refine EV_skip ?_ | refine EV_scope ?_ | refine EV_label ?_ | refine EV_exit ?_ | refine EV_ret ?_ | (simp only [thenP, blockP, scopeP, if_true, reduceIte, reduceCtorEq, if_false, Nat.reduceEqDiff]; apply_assumption -exfalso)))
  ((refine EV_region E_ok ?_; intro R hR fr; simp only [push_cast, bne_self_eq_false, simprocAttr]; (try (simp (disch := omega) only [i64_in', sub_elt, sub_elt0, getD_map2]; (try simp only [push_cast, bne_self_eq_false, simprocAttr])))); (repeat ((with_reducible apply And.intro); focus (first | (intro hA; exact ⟨hA, fun hB => (by rw [hA, hB]; rfl)⟩) | omega | decide | (simp; done) | (simp; omega)))))
  obtain ⟨k, hk, hke, hkt⟩ : ∃ k : Nat, k ≤ l.length ∧ min2I (l.length : Int) 400 = (k : Int) ∧ l.take k = l.take 400 := by
    refine ⟨min l.length 400, Nat.min_le_left _ _, by simp only [min2I]; split <;> omega, ?_⟩
    by_cases h : l.length ≤ 400
    · rw [Nat.min_eq_left h, List.take_length, List.take_of_length_le h]
    · rw [Nat.min_eq_right (by omega)]
  simp only [hke, Int.toNat_natCast]
  rw [sub_elt0 hk, hkt]
  rw [GDice.p0]
  refine ⟨⟨by omega, by omega⟩, GDice.sol _, ?_⟩
  (try (simp only [thenP, blockP, scopeP, if_true, reduceIte, reduceCtorEq, if_false, Nat.reduceEqDiff]; apply_assumption -exfalso))
  (try apply_assumption -exfalso)
  (repeat (first | (refine EV_seq ?_; intro K hK) | refine EV_block ?_ | ((refine EV_region E_ok ?_; intro R hR fr; simp only [push_cast, bne_self_eq_false, simprocAttr]; (try (simp (disch := omega) only [i64_in', sub_elt, sub_elt0, getD_map2]; (try simp only [push_cast, bne_self_eq_false, simprocAttr])))); (repeat ((with_reducible apply And.intro); focus (first | (intro hA; exact ⟨hA, fun hB => (by rw [hA, hB]; rfl)⟩) | omega | decide | (simp; done) | (simp; omega)))); apply_assumption -exfalso) | refine EV_skip ?_ | refine EV_scope ?_ | refine EV_label ?_ | refine EV_exit ?_ | refine EV_ret ?_ | (simp only [thenP, blockP, scopeP, if_true, reduceIte, reduceCtorEq, if_false, Nat.reduceEqDiff]; apply_assumption -exfalso)))
  simp only [push_cast, thenP, blockP, scopeP, retP, evR, evRes, evRes1, Nat.zero_lt_one, Nat.reduceEqDiff, Nat.reduceLT, Nat.reduceAdd, Nat.reduceLeDiff, reduceIte, reduceCtorEq]
  simp only [frzKT, frzKLA, frzKA, frzKL, frzKC, frzT, frzLA, frzA, frzL, frzC, fromM, getD', List.getD_cons_zero, List.getD_cons_succ, Nat.zero_le, decide_true, and_true, true_and, and_self, push_cast]
  exact ⟨trivial, _, rfl, rfl⟩
theorem ec_Next (h : RowH) (d : GDice) (n : Int) (hd : wfD d) : EC Try.prog 41 [.rptr 0 h 1 0 0, .int .i64 n] [dRow h d] fun r N => ∃ x : Int × GDice, (0 ≤ x.1 ∧ x.1 ≤ 255 ∧ (1 ≤ n → x.1 < n) ∧ wfD x.2) ∧ r = .int .i64 x.1 ∧ N = [dRow h x.2] := by
  refine EC.finE (EC.enter E_ok call_41 Try.func41 rfl (by simp [Try.ntmps41]) ?_)
  simp only [Try.ntmps41, Try.results41, bindA]
  (repeat (first | (refine EV_seq ?_; intro K hK) | refine EV_block ?_ | ((refine EV_region E_ok ?_; intro R hR fr; simp only [push_cast, bne_self_eq_false, simprocAttr]; (try (simp (disch := omega) only [i64_in', sub_elt, sub_elt0, getD_map2]; (try simp only [push_cast, bne_self_eq_false, simprocAttr])))); (repeat ((with_reducible apply And.intro); focus (first | (intro hA; exact ⟨hA, fun hB => (by rw [hA, hB]; rfl)⟩) | omega | decide | (simp; done) | (simp; omega)))); apply_assumption -exfalso) | refine EV_skip ?_ | refine EV_scope ?_ | refine EV_label ?_ | refine EV_exit ?_ | refine EV_ret ?_ | (simp only [thenP, blockP, scopeP, if_true, reduceIte, reduceCtorEq, if_false, Nat.reduceEqDiff]; apply_assumption -exfalso)))
  (apply EV_cond; exact rfl; all_goals intro h)
  · (repeat (first | (refine EV_seq ?_; intro K hK) | refine EV_block ?_ | ((refine EV_region E_ok ?_; intro R hR fr; simp only [push_cast, bne_self_eq_false, simprocAttr]; (try (simp (disch := omega) only [i64_in', sub_elt, sub_elt0, getD_map2]; (try simp only [push_cast, bne_self_eq_false, simprocAttr])))); (repeat ((with_reducible apply And.intro); focus (first | (intro hA; exact ⟨hA, fun hB => (by rw [hA, hB]; rfl)⟩) | omega | decide | (simp; done) | (simp; omega)))); apply_assumption -exfalso) | refine EV_skip ?_ | refine EV_scope ?_ | refine EV_label ?_ | refine EV_exit ?_ | refine EV_ret ?_ | (simp only [thenP, blockP, scopeP, if_true, reduceIte, reduceCtorEq, if_false, Nat.reduceEqDiff]; apply_assumption -exfalso)))
    simp only [push_cast, thenP, blockP, scopeP, retP, evR, evRes, evRes1, Nat.zero_lt_one, Nat.reduceEqDiff, Nat.reduceLT, Nat.reduceAdd, Nat.reduceLeDiff, reduceIte, reduceCtorEq]
    simp only [frzKT, frzKLA, frzKA, frzKL, frzKC, frzT, frzLA, frzA, frzL, frzC, fromM, getD', List.getD_cons_zero, List.getD_cons_succ, Nat.zero_le, decide_true, and_true, true_and, and_self, push_cast]
    refine ⟨(0, d), ⟨by simp, by simp, by simp; omega, hd⟩, SLe.refl _, rfl⟩
  · obtain ⟨l⟩ := d
    cases l with
    | nil => simp at h
    | cons y l =>
    have hy := hd.2 y (by simp)
    have hn : 2 ≤ n := by simp at h; omega
    have hm : y.tmod n < n := Int.tmod_lt_of_pos y (by omega)
    have hm0 : 0 ≤ y.tmod n := Int.tmod_nonneg n hy.1
    have hm1 : y.tmod n ≤ y := tmod_le hy.1 (by omega)
    have h2 : wfD { l := l } := ⟨by have := hd.1; simp at this ⊢; omega, fun z hz => hd.2 z (by simp [hz])⟩
    (repeat (first | (refine EV_seq ?_; intro K hK) | refine EV_block ?_ | ((refine EV_region E_ok ?_; intro R hR fr; simp only [push_cast, bne_self_eq_false, simprocAttr]; (try (simp (disch := omega) only [i64_in', sub_elt, sub_elt0, getD_map2]; (try simp only [push_cast, bne_self_eq_false, simprocAttr])))); (repeat ((with_reducible apply And.intro); focus (first | (intro hA; exact ⟨hA, fun hB => (by rw [hA, hB]; rfl)⟩) | omega | decide | (simp; done) | (simp; omega)))); apply_assumption -exfalso) | refine EV_skip ?_ | refine EV_scope ?_ | refine EV_label ?_ | refine EV_exit ?_ | refine EV_ret ?_ | (simp only [thenP, blockP, scopeP, if_true, reduceIte, reduceCtorEq, if_false, Nat.reduceEqDiff]; apply_assumption -exfalso)))
    have e1 : IntKind.i64.wrap y = y := i64_in' (by omega)
    have e2 : SV.sl false 1 l.length (sub (elt (intC .u8) default (y :: l)) (l.length + 1) 1 l.length) = .sl false 1 l.length (elt (intC .u8) default l) := by
      have := sub_eltD (fl := false) (e := 1) (c := intC .u8) (d := default) (l := y :: l) (lo := 1)
      simpa using this
    (try simp only [e1, e2])
    rw [GDice.p0]
    (repeat (first | (refine EV_seq ?_; intro K hK) | refine EV_block ?_ | ((refine EV_region E_ok ?_; intro R hR fr; simp only [push_cast, bne_self_eq_false, simprocAttr]; (try (simp (disch := omega) only [i64_in', sub_elt, sub_elt0, getD_map2]; (try simp only [push_cast, bne_self_eq_false, simprocAttr])))); (repeat ((with_reducible apply And.intro); focus (first | (intro hA; exact ⟨hA, fun hB => (by rw [hA, hB]; rfl)⟩) | omega | decide | (simp; done) | (simp; omega)))); apply_assumption -exfalso) | refine EV_skip ?_ | refine EV_scope ?_ | refine EV_label ?_ | refine EV_exit ?_ | refine EV_ret ?_ | (simp only [thenP, blockP, scopeP, if_true, reduceIte, reduceCtorEq, if_false, Nat.reduceEqDiff]; apply_assumption -exfalso)))
    simp only [push_cast, thenP, blockP, scopeP, retP, evR, evRes, evRes1, Nat.zero_lt_one, Nat.reduceEqDiff, Nat.reduceLT, Nat.reduceAdd, Nat.reduceLeDiff, reduceIte, reduceCtorEq]
    simp only [frzKT, frzKLA, frzKA, frzKL, frzKC, frzT, frzLA, frzA, frzL, frzC, fromM, getD', List.getD_cons_zero, List.getD_cons_succ, Nat.zero_le, decide_true, and_true, true_and, and_self, push_cast]
    refine ⟨(y.tmod n, { l := l }), ⟨hm0, by omega, fun _ => hm, h2⟩, SLe.refl _, rfl⟩
end Go.Proofs.Ytbahpkjfgoeohaa
