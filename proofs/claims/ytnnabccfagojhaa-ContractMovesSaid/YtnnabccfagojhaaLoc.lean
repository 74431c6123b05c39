-- SG
/- Addresses: functions that take functions, and what is deleted. -/
import Derived.Test.YtnnabccfagojhaaFin
import Derived.Test.YtnnabccfagojhaaLiftQ
namespace Go.Proofs.Ytnnabccfagojhaa
open Go.Lift
set_option linter.unusedSimpArgs false
set_option linter.unusedVariables false
set_option maxRecDepth 10000
attribute [push_cast] Option.toList_none Option.toList_some
/-- What a value is when all rows are read only. -/
def Fz (B : List Own) (s s' : SV) : Prop := ∀ X w v, Sat X w B → Den X w s v → Den (withSel X B (fromM 0)) w s' v
theorem Fz.of {B : List Own} {s s' : SV} (hk : frzKT (fromM 0) B s) (h : SLe (frzT (fromM 0) B s) s') : Fz B s s' := fun X w v hs hd => h _ _ _ (frzT_sound hs hd hk)
inductive LGz (B : List Own) : List SV → List SV → Prop where
  | nil : LGz B [] []
  | cons {s s' : SV} {l l' : List SV} (h : Fz B s s') (hr : LGz B l l') : LGz B (s :: l) (s' :: l')
theorem LGz.spec {B : List Own} {l l' : List SV} (h : LGz B l l') : l.length = l'.length ∧ ∀ (i : Nat) (c : SV), l'[i]? = some c → ∃ d, l[i]? = some d ∧ Fz B d c := by
  induction h with
  | nil => exact ⟨rfl, by simp⟩
  | cons h hr ih =>
    refine ⟨by simp [ih.1], fun i c hc => ?_⟩
    cases i with
    | zero => simp at hc; subst hc; exact ⟨_, rfl, h⟩
    | succ i => simpa using ih.2 i c (by simpa using hc)
theorem Fz.fn {B : List Own} {f : FuncId} {l l' : List SV} (h : LGz B l l') : Fz B (.fn f l) (.fn f l') := fun X w v hs hd => by
  cases hd with
  | fn hz hc =>
    refine .fn (by rw [hz, h.spec.1]) fun i c hi => ?_
    obtain ⟨d, h1, h2⟩ := h.spec.2 i c hi
    exact h2 X w _ hs (hc i d h1)
theorem Fz.int {B : List Own} {k : IntKind} {n : Int} : Fz B (.int k n) (.int k n) := Fz.of trivial (SLe.refl _)
theorem Fz.slL {α : Type} {B : List Own} {e : Nat} {cells : α → List SV} {d : α} {l : List α} : Fz B (Go.Lift.slL e cells d l) (Go.Lift.slL e cells d l) := Fz.of trivial (SLe.refl _)
theorem Fz.addr {B : List Own} {o : GAddress} : Fz B (.agg o.c) (.agg o.c) := by
  refine Fz.of (by simp only [frzKT, frzKA, GAddress.fk]) ?_
  simp only [frzT, frzA, GAddress.fz]
  exact SLe.refl _
theorem Fz.box {B : List Own} {i E e : Nat} {h : RowH} {c : List SV} (hB : getD' B i = .row h E e [c]) : Fz B (.rptr i h e 0 0) (.xp c) := by
  refine Fz.of ?_ ?_
  · simp [frzKT, frzKA, frzKC, fromM, hB]
  · simp only [frzT, frzA, frzC, fromM, Nat.zero_le, decide_true, hB]
    exact SLe.refl _
theorem Fz.rowP {α : Type} {B : List Own} {i e n lo E : Nat} {h : RowH} {xs : List (List SV)} {cells : α → List SV} {d : α} {pre l : List α} (hB : getD' B i = .row h E e xs) (hx : xs = (pre ++ l).map cells) (hn : n = l.length) (hlo : lo = pre.length) :
    Fz B (.row i h e lo n) (Go.Lift.slL e cells d l) := by
  subst hx hn hlo
  refine Fz.of ?_ ?_
  · simp [frzKT, frzKA, frzKC, fromM, hB]
  · simp only [frzT, frzA, frzC, fromM, Nat.zero_le, decide_true, hB]
    refine SLe.sl (fun h => h) (.inr rfl) fun k hk => ?_
    simp [List.getD, hk, elt]
/-- Rows are lent to a callee that only reads, functions and what they hold among them. -/
theorem EC.lendG {P : Program} {f : Nat} {args args' : List SV} {B : List Own} {C : SV → Prop} {Q : SV → List Own → Prop} (h : EC P f args' [] fun r N => N = [] ∧ C r) (ha : LGz B args args') (hf : ∀ r, C r → fot r = true) (hk : ∀ r, C r → Q r B) : EC P f args B Q := by
  have hb : ∀ i, getD' ([] : List Own) i = if fromM 0 i then .gone else getD' B i := fun i => by simp [fromM, getD']
  refine ⟨h.1, fun X w vs hs hd => ?_⟩
  have hsp := ha.spec
  refine (h.2 (withSel X B (fromM 0)) w vs (hs.drop_sel hb) ⟨by rw [hd.1, hsp.1], fun i c hc => ?_⟩).mono ?_
  · obtain ⟨d, h1, h2⟩ := hsp.2 i c hc
    exact h2 X w _ hs (hd.2 i d h1)
  · rintro e w' ⟨v, r, X', B', he, ⟨rfl, hq⟩, h1, h2, h3⟩
    have hblk : ∀ b, b < w.heap.size → w'.heap[b]? = w.heap[b]? := fun b hb => h3.block b hb owns_nil
    refine ⟨v, r, X, B, he, hk r hq, ⟨hs.inj, fun i b h => Nat.lt_of_lt_of_le (hs.lt i b h) h3.size, fun b h => Nat.lt_of_lt_of_le (hs.xlt b h) h3.size, hs.apart, fun i => ?_⟩, h2.fot (hf r hq),
      ⟨h3.os, h3.tape, h3.output, h3.size, fun b hb _ => hblk b hb, fun _ h => h, fun _ h => .inl h, fun _ h => .inl h⟩⟩
    exact Own.ok_mono (hs.ok i) (fun _ h => h) (fun b hb => hblk b (hs.xlt b hb)) fun b hb => hblk b (hs.lt i b hb)
/-- The first place at which something holds, or -1. -/
def idxP {α : Type} (p : α → Bool) : Nat → List α → Int
  | _, [] => -1
  | i, y :: t => if p y then (i : Int) else idxP p (i + 1) t
theorem idxP_step {α : Type} [Inhabited α] {p : α → Bool} {l : List α} {i : Nat} (h : i < l.length) : idxP p i (l.drop i) = if p (l.getD i default) then (i : Int) else idxP p (i + 1) (l.drop (i + 1)) := by
  rw [List.drop_eq_getElem_cons h]
  simp [idxP, List.getD, h]
theorem idxP_find {α : Type} (p : α → Bool) (l : List α) : ∀ i, idxP p i l = if l.findIdx p < l.length then ((i + l.findIdx p : Nat) : Int) else -1 := by
  induction l with
  | nil => intro i; simp [idxP]
  | cons y t ih =>
    intro i
    rw [idxP, List.findIdx_cons]
    cases hp : p y with
    | true => simp
    | false =>
      simp only [Bool.false_eq_true, if_false, cond_false, ih, List.length_cons, Nat.add_lt_add_iff_right]
      split
      · congr 1; omega
      · rfl
def sameA (f p : Int) (a : GAddress) : Bool := a.From == f && a.Process == p
theorem ec_at1 (f p : Int) (q : GAddress) : EC Try.prog 69 [.agg q.c, .xp [.int .i64 f], .xp [.int .u64 p]] [] fun r N => N = [] ∧ r = .bool (sameA f p q) := by
  refine EC.fin (EC.enter E_ok call_69 Try.func69 rfl (by simp [Try.ntmps69]) ?_)
  simp only [Try.ntmps69, Try.results69, bindA]
  (repeat (first | (refine EV_seq ?_; intro K hK) | refine EV_block ?_ | ((refine EV_region E_ok ?_; intro R hR fr; simp only [push_cast, bne_self_eq_false, simprocAttr]; (try (simp (disch := omega) only [i64_in', sub_elt, sub_elt0, getD_map2]; (try simp only [push_cast, bne_self_eq_false, simprocAttr])))); (repeat ((with_reducible apply And.intro); focus (first | (intro hA; exact ⟨hA, fun hB => (by first | (rw [hA, hB]; rfl) | simp_all)⟩) | omega | decide | (simp; done) | (simp; omega) | (intro hA; (repeat' apply And.intro) <;> first | exact hA | omega)))); apply_assumption -exfalso) | refine EV_skip ?_ | refine EV_scope ?_ | refine EV_label ?_ | refine EV_exit ?_ | refine EV_ret ?_ | (simp only [thenP, blockP, scopeP, if_true, reduceIte, reduceCtorEq, if_false, Nat.reduceEqDiff]; apply_assumption -exfalso)))
  (simp only [push_cast, thenP, blockP, scopeP, retP, evR, evRes, evRes1, Nat.zero_lt_one, Nat.reduceEqDiff, Nat.reduceLT, Nat.reduceAdd, Nat.reduceLeDiff, reduceIte, reduceCtorEq]; simp only [frzKT, frzKLA, frzKA, frzKL, frzKC, frzT, frzLA, frzA, frzL, frzC, fromM, getD', List.getD_cons_zero, List.getD_cons_succ, Nat.zero_le, decide_true, and_true, true_and, and_self, push_cast]; refine SLe.of_eq ?_; rfl)
theorem ec_Note1 (f p : Int) (q : GAddress) : EC Try.prog 54 [.agg q.c, .xp [.int .i64 f], .xp [.int .u64 p]] [] fun r N => N = [] ∧ r = .bool (sameA f p q) := by
  refine EC.fin (EC.enter E_ok call_54 Try.func54 rfl (by simp [Try.ntmps54]) ?_)
  simp only [Try.ntmps54, Try.results54, bindA]
  (repeat (first | (refine EV_seq ?_; intro K hK) | refine EV_block ?_ | ((refine EV_region E_ok ?_; intro R hR fr; simp only [push_cast, bne_self_eq_false, simprocAttr]; (try (simp (disch := omega) only [i64_in', sub_elt, sub_elt0, getD_map2]; (try simp only [push_cast, bne_self_eq_false, simprocAttr])))); (repeat ((with_reducible apply And.intro); focus (first | (intro hA; exact ⟨hA, fun hB => (by first | (rw [hA, hB]; rfl) | simp_all)⟩) | omega | decide | (simp; done) | (simp; omega) | (intro hA; (repeat' apply And.intro) <;> first | exact hA | omega)))); apply_assumption -exfalso) | refine EV_skip ?_ | refine EV_scope ?_ | refine EV_label ?_ | refine EV_exit ?_ | refine EV_ret ?_ | (simp only [thenP, blockP, scopeP, if_true, reduceIte, reduceCtorEq, if_false, Nat.reduceEqDiff]; apply_assumption -exfalso)))
  (simp only [push_cast, thenP, blockP, scopeP, retP, evR, evRes, evRes1, Nat.zero_lt_one, Nat.reduceEqDiff, Nat.reduceLT, Nat.reduceAdd, Nat.reduceLeDiff, reduceIte, reduceCtorEq]; simp only [frzKT, frzKLA, frzKA, frzKL, frzKC, frzT, frzLA, frzA, frzL, frzC, fromM, getD', List.getD_cons_zero, List.getD_cons_succ, Nat.zero_le, decide_true, and_true, true_and, and_self, push_cast]; refine SLe.of_eq ?_; rfl)
theorem ec_indexFunc_AD {g : FuncId} {cap : List SV} {p : GAddress → Bool} (l : List GAddress) (hl : l.length ≤ 1000000)
    (hg : ∀ q : GAddress, EC Try.prog g (.agg q.c :: cap) [] fun r N => N = [] ∧ r = .bool (p q)) :
    EC Try.prog 68 [slL 3 GAddress.c default l, .fn g cap] [] fun r N => N = [] ∧ r = .int .i64 (idxP p 0 l) := by
  refine EC.fin (EC.enter E_ok call_68 Try.func68 rfl (by simp [Try.ntmps68]) ?_)
  simp only [Try.ntmps68, Try.results68, bindA]
  (repeat (first | (refine EV_seq ?_; intro K hK) | refine EV_block ?_ | ((refine EV_region E_ok ?_; intro R hR fr; simp only [push_cast, bne_self_eq_false, simprocAttr]; (try (simp (disch := omega) only [i64_in', sub_elt, sub_elt0, getD_map2]; (try simp only [push_cast, bne_self_eq_false, simprocAttr])))); (repeat ((with_reducible apply And.intro); focus (first | (intro hA; exact ⟨hA, fun hB => (by first | (rw [hA, hB]; rfl) | simp_all)⟩) | omega | decide | (simp; done) | (simp; omega) | (intro hA; (repeat' apply And.intro) <;> first | exact hA | omega)))); apply_assumption -exfalso) | refine EV_skip ?_ | refine EV_scope ?_ | refine EV_label ?_ | refine EV_exit ?_ | refine EV_ret ?_ | (simp only [thenP, blockP, scopeP, if_true, reduceIte, reduceCtorEq, if_false, Nat.reduceEqDiff]; apply_assumption -exfalso)))
  refine EV_loopL [0, 1, 7] (fun i : Nat => [(8, .int .i64 i)]) (fun i => i ≤ l.length ∧ idxP p 0 l = idxP p i (l.drop i)) (fun i => l.length - i) 0 ⟨Nat.zero_le _, rfl⟩ ⟨rfl, trivial⟩ ?_
  rintro i ⟨hi, hx⟩
  simp only [updX, updH, setX, keepS, lkp, Nat.reduceEqDiff, if_true, if_false, reduceIte, List.cons_append, List.nil_append, List.take_succ_cons, List.take_zero, List.append_nil]
  (repeat (first | (refine EV_seq ?_; intro K hK) | refine EV_block ?_ | ((refine EV_region E_ok ?_; intro R hR fr; simp only [push_cast, bne_self_eq_false, simprocAttr]; (try (simp (disch := omega) only [i64_in', sub_elt, sub_elt0, getD_map2]; (try simp only [push_cast, bne_self_eq_false, simprocAttr])))); (repeat ((with_reducible apply And.intro); focus (first | (intro hA; exact ⟨hA, fun hB => (by first | (rw [hA, hB]; rfl) | simp_all)⟩) | omega | decide | (simp; done) | (simp; omega) | (intro hA; (repeat' apply And.intro) <;> first | exact hA | omega)))); apply_assumption -exfalso) | refine EV_skip ?_ | refine EV_scope ?_ | refine EV_label ?_ | refine EV_exit ?_ | refine EV_ret ?_ | (simp only [thenP, blockP, scopeP, if_true, reduceIte, reduceCtorEq, if_false, Nat.reduceEqDiff]; apply_assumption -exfalso)))
  (apply EV_cond; exact rfl; all_goals intro h)
  · have hlt : i < l.length := by simp at h; omega
    rw [idxP_step hlt] at hx
    (repeat (first | (refine EV_seq ?_; intro K hK) | refine EV_block ?_ | ((refine EV_region E_ok ?_; intro R hR fr; simp only [push_cast, bne_self_eq_false, simprocAttr]; (try (simp (disch := omega) only [i64_in', sub_elt, sub_elt0, getD_map2]; (try simp only [push_cast, bne_self_eq_false, simprocAttr])))); (repeat ((with_reducible apply And.intro); focus (first | (intro hA; exact ⟨hA, fun hB => (by first | (rw [hA, hB]; rfl) | simp_all)⟩) | omega | decide | (simp; done) | (simp; omega) | (intro hA; (repeat' apply And.intro) <;> first | exact hA | omega)))); apply_assumption -exfalso) | refine EV_skip ?_ | refine EV_scope ?_ | refine EV_label ?_ | refine EV_exit ?_ | refine EV_ret ?_ | (simp only [thenP, blockP, scopeP, if_true, reduceIte, reduceCtorEq, if_false, Nat.reduceEqDiff]; apply_assumption -exfalso)))
    ((refine EV_region E_ok ?_; intro R hR fr; simp only [push_cast, bne_self_eq_false, simprocAttr]; (try (simp (disch := omega) only [i64_in', sub_elt, sub_elt0, getD_map2]; (try simp only [push_cast, bne_self_eq_false, simprocAttr])))); (repeat ((with_reducible apply And.intro); focus (first | (intro hA; exact ⟨hA, fun hB => (by first | (rw [hA, hB]; rfl) | simp_all)⟩) | omega | decide | (simp; done) | (simp; omega) | (intro hA; (repeat' apply And.intro) <;> first | exact hA | omega)))))
    (refine EC.use (hg (l.getD i default)) ?_; (try simp only [hg]); refine EO_run E_ok _ 0 _ _ ?_; intro fr; simp only [push_cast, bne_self_eq_false, simprocAttr]; (try (simp (disch := omega) only [i64_in', sub_elt, sub_elt0, getD_map2]; (try simp only [push_cast, bne_self_eq_false, simprocAttr]))); (repeat ((with_reducible apply And.intro); focus (first | (intro hA; exact ⟨hA, fun hB => (by first | (rw [hA, hB]; rfl) | simp_all)⟩) | omega | decide | (simp; done) | (simp; omega) | (intro hA; (repeat' apply And.intro) <;> first | exact hA | omega)))); (try apply_assumption -exfalso))
    (repeat (first | (refine EV_seq ?_; intro K hK) | refine EV_block ?_ | ((refine EV_region E_ok ?_; intro R hR fr; simp only [push_cast, bne_self_eq_false, simprocAttr]; (try (simp (disch := omega) only [i64_in', sub_elt, sub_elt0, getD_map2]; (try simp only [push_cast, bne_self_eq_false, simprocAttr])))); (repeat ((with_reducible apply And.intro); focus (first | (intro hA; exact ⟨hA, fun hB => (by first | (rw [hA, hB]; rfl) | simp_all)⟩) | omega | decide | (simp; done) | (simp; omega) | (intro hA; (repeat' apply And.intro) <;> first | exact hA | omega)))); apply_assumption -exfalso) | refine EV_skip ?_ | refine EV_scope ?_ | refine EV_label ?_ | refine EV_exit ?_ | refine EV_ret ?_ | (simp only [thenP, blockP, scopeP, if_true, reduceIte, reduceCtorEq, if_false, Nat.reduceEqDiff]; apply_assumption -exfalso)))
    (apply EV_cond; exact rfl; all_goals intro h)
    · rw [if_pos h] at hx
      (repeat (first | (refine EV_seq ?_; intro K hK) | refine EV_block ?_ | ((refine EV_region E_ok ?_; intro R hR fr; simp only [push_cast, bne_self_eq_false, simprocAttr]; (try (simp (disch := omega) only [i64_in', sub_elt, sub_elt0, getD_map2]; (try simp only [push_cast, bne_self_eq_false, simprocAttr])))); (repeat ((with_reducible apply And.intro); focus (first | (intro hA; exact ⟨hA, fun hB => (by first | (rw [hA, hB]; rfl) | simp_all)⟩) | omega | decide | (simp; done) | (simp; omega) | (intro hA; (repeat' apply And.intro) <;> first | exact hA | omega)))); apply_assumption -exfalso) | refine EV_skip ?_ | refine EV_scope ?_ | refine EV_label ?_ | refine EV_exit ?_ | refine EV_ret ?_ | (simp only [thenP, blockP, scopeP, if_true, reduceIte, reduceCtorEq, if_false, Nat.reduceEqDiff]; apply_assumption -exfalso)))
      (simp only [push_cast, thenP, blockP, scopeP, retP, evR, evRes, evRes1, Nat.zero_lt_one, Nat.reduceEqDiff, Nat.reduceLT, Nat.reduceAdd, Nat.reduceLeDiff, reduceIte, reduceCtorEq]; simp only [frzKT, frzKLA, frzKA, frzKL, frzKC, frzT, frzLA, frzA, frzL, frzC, fromM, getD', List.getD_cons_zero, List.getD_cons_succ, Nat.zero_le, decide_true, and_true, true_and, and_self, push_cast]; refine SLe.of_eq ?_; (rw [hx]))
    · rw [h, if_neg (by simp)] at hx
      (repeat (first | (refine EV_seq ?_; intro K hK) | refine EV_block ?_ | ((refine EV_region E_ok ?_; intro R hR fr; simp only [push_cast, bne_self_eq_false, simprocAttr]; (try (simp (disch := omega) only [i64_in', sub_elt, sub_elt0, getD_map2]; (try simp only [push_cast, bne_self_eq_false, simprocAttr])))); (repeat ((with_reducible apply And.intro); focus (first | (intro hA; exact ⟨hA, fun hB => (by first | (rw [hA, hB]; rfl) | simp_all)⟩) | omega | decide | (simp; done) | (simp; omega) | (intro hA; (repeat' apply And.intro) <;> first | exact hA | omega)))); apply_assumption -exfalso) | refine EV_skip ?_ | refine EV_scope ?_ | refine EV_label ?_ | refine EV_exit ?_ | refine EV_ret ?_ | (simp only [thenP, blockP, scopeP, if_true, reduceIte, reduceCtorEq, if_false, Nat.reduceEqDiff]; apply_assumption -exfalso)))
      (simp only [thenP, blockP, scopeP, if_true, reduceIte, reduceCtorEq, if_false]; refine ⟨i + 1, ?_, ?_, (by first | (simp [wkS, lkp, List.take_length]; done) | repeat (first | exact trivial | refine And.intro (by first | rfl | (simp only [lkp, push_cast, bne_self_eq_false, simprocAttr]; done) | (simp [lkp]; done)) ?_)), (by first | (simp only [push_cast, List.take_length, List.take_append_of_le_length, bne_self_eq_false, simprocAttr]; done) | (simp [updX, updH, setX]; done))⟩)
      · exact ⟨by omega, hx⟩
      · omega
  · have e : i = l.length := by simp at h; omega
    rw [e, List.drop_length] at hx
    (repeat (first | (refine EV_seq ?_; intro K hK) | refine EV_block ?_ | ((refine EV_region E_ok ?_; intro R hR fr; simp only [push_cast, bne_self_eq_false, simprocAttr]; (try (simp (disch := omega) only [i64_in', sub_elt, sub_elt0, getD_map2]; (try simp only [push_cast, bne_self_eq_false, simprocAttr])))); (repeat ((with_reducible apply And.intro); focus (first | (intro hA; exact ⟨hA, fun hB => (by first | (rw [hA, hB]; rfl) | simp_all)⟩) | omega | decide | (simp; done) | (simp; omega) | (intro hA; (repeat' apply And.intro) <;> first | exact hA | omega)))); apply_assumption -exfalso) | refine EV_skip ?_ | refine EV_scope ?_ | refine EV_label ?_ | refine EV_exit ?_ | refine EV_ret ?_ | (simp only [thenP, blockP, scopeP, if_true, reduceIte, reduceCtorEq, if_false, Nat.reduceEqDiff]; apply_assumption -exfalso)))
    (simp only [push_cast, thenP, blockP, scopeP, retP, evR, evRes, evRes1, Nat.zero_lt_one, Nat.reduceEqDiff, Nat.reduceLT, Nat.reduceAdd, Nat.reduceLeDiff, reduceIte, reduceCtorEq]; simp only [frzKT, frzKLA, frzKA, frzKL, frzKC, frzT, frzLA, frzA, frzL, frzC, fromM, getD', List.getD_cons_zero, List.getD_cons_succ, Nat.zero_le, decide_true, and_true, true_and, and_self, push_cast]; refine SLe.of_eq ?_; (rw [hx]; rfl))
def atL (l : List GAddress) (f p : Int) : Int := idxP (sameA f p) 0 l
theorem ec_locate_at (l : List GAddress) (f p : Int) (hl : l.length ≤ 1000000) : EC Try.prog 56 [slL 3 GAddress.c default l, .int .i64 f, .int .u64 p] [] fun r N => N = [] ∧ r = .int .i64 (atL l f p) := by
  refine EC.fin (EC.enter E_ok call_56 Try.func56 rfl (by simp [Try.ntmps56]) ?_)
  simp only [Try.ntmps56, Try.results56, bindA]
  (repeat (first | (refine EV_seq ?_; intro K hK) | refine EV_block ?_ | ((refine EV_region E_ok ?_; intro R hR fr; simp only [push_cast, bne_self_eq_false, simprocAttr]; (try (simp (disch := omega) only [i64_in', sub_elt, sub_elt0, getD_map2]; (try simp only [push_cast, bne_self_eq_false, simprocAttr])))); (repeat ((with_reducible apply And.intro); focus (first | (intro hA; exact ⟨hA, fun hB => (by first | (rw [hA, hB]; rfl) | simp_all)⟩) | omega | decide | (simp; done) | (simp; omega) | (intro hA; (repeat' apply And.intro) <;> first | exact hA | omega)))); apply_assumption -exfalso) | refine EV_skip ?_ | refine EV_scope ?_ | refine EV_label ?_ | refine EV_exit ?_ | refine EV_ret ?_ | (simp only [thenP, blockP, scopeP, if_true, reduceIte, reduceCtorEq, if_false, Nat.reduceEqDiff]; apply_assumption -exfalso)))
  ((refine EV_region E_ok ?_; intro R hR fr; simp only [push_cast, bne_self_eq_false, simprocAttr]; (try (simp (disch := omega) only [i64_in', sub_elt, sub_elt0, getD_map2]; (try simp only [push_cast, bne_self_eq_false, simprocAttr])))); (repeat ((with_reducible apply And.intro); focus (first | (intro hA; exact ⟨hA, fun hB => (by first | (rw [hA, hB]; rfl) | simp_all)⟩) | omega | decide | (simp; done) | (simp; omega) | (intro hA; (repeat' apply And.intro) <;> first | exact hA | omega)))))
  refine EC.lendG (ec_indexFunc_AD l hl (ec_at1 f p)) (.cons Fz.slL (.cons (Fz.fn (.cons (Fz.box rfl) (.cons (Fz.box rfl) .nil))) .nil)) (by rintro _ rfl; rfl) ?_
  rintro _ rfl
  ((try simp only [hg]); refine EO_run E_ok _ 0 _ _ ?_; intro fr; simp only [push_cast, bne_self_eq_false, simprocAttr]; (try (simp (disch := omega) only [i64_in', sub_elt, sub_elt0, getD_map2]; (try simp only [push_cast, bne_self_eq_false, simprocAttr]))); (repeat ((with_reducible apply And.intro); focus (first | (intro hA; exact ⟨hA, fun hB => (by first | (rw [hA, hB]; rfl) | simp_all)⟩) | omega | decide | (simp; done) | (simp; omega) | (intro hA; (repeat' apply And.intro) <;> first | exact hA | omega)))); (try apply_assumption -exfalso))
  (repeat (first | (refine EV_seq ?_; intro K hK) | refine EV_block ?_ | ((refine EV_region E_ok ?_; intro R hR fr; simp only [push_cast, bne_self_eq_false, simprocAttr]; (try (simp (disch := omega) only [i64_in', sub_elt, sub_elt0, getD_map2]; (try simp only [push_cast, bne_self_eq_false, simprocAttr])))); (repeat ((with_reducible apply And.intro); focus (first | (intro hA; exact ⟨hA, fun hB => (by first | (rw [hA, hB]; rfl) | simp_all)⟩) | omega | decide | (simp; done) | (simp; omega) | (intro hA; (repeat' apply And.intro) <;> first | exact hA | omega)))); apply_assumption -exfalso) | refine EV_skip ?_ | refine EV_scope ?_ | refine EV_label ?_ | refine EV_exit ?_ | refine EV_ret ?_ | (simp only [thenP, blockP, scopeP, if_true, reduceIte, reduceCtorEq, if_false, Nat.reduceEqDiff]; apply_assumption -exfalso)))
  (simp only [push_cast, thenP, blockP, scopeP, retP, evR, evRes, evRes1, Nat.zero_lt_one, Nat.reduceEqDiff, Nat.reduceLT, Nat.reduceAdd, Nat.reduceLeDiff, reduceIte, reduceCtorEq]; simp only [frzKT, frzKLA, frzKA, frzKL, frzKC, frzT, frzLA, frzA, frzL, frzC, fromM, getD', List.getD_cons_zero, List.getD_cons_succ, Nat.zero_le, decide_true, and_true, true_and, and_self, push_cast]; refine SLe.of_eq ?_; rfl)
end Go.Proofs.Ytnnabccfagojhaa
