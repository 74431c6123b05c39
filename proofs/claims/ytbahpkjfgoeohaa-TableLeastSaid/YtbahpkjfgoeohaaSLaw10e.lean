-- SG
/- TableKeeps: the plain law and the walk. -/
import Derived.Test.YtbahpkjfgoeohaaSMadeT
import Derived.Test.YtbahpkjfgoeohaaSLaw10b
import Derived.Test.YtbahpkjfgoeohaaSLaw10c
namespace Go.Proofs.Ytbahpkjfgoeohaa
open Go.Lift
set_option linter.unusedSimpArgs false
set_option linter.unusedVariables false
set_option maxRecDepth 10000
theorem getD_over {α : Type} [Inhabited α] {l : List α} {i : Nat} (h : l.length ≤ i) : l.getD i default = default := by
  simp only [List.getD, List.getElem?_eq_none h, Option.getD_none]
theorem putAt_get (t : List GSlot) (s : GSlot) (j : Nat) : (putAt t s).getD j default = if j = fz t then s else t.getD j default := by
  have hf := fz_le t
  unfold putAt
  split
  · rename_i h
    by_cases e : j = fz t
    · subst e; simp [List.getD, h]
    · rw [if_neg e]; simp only [List.getD]; rw [List.getElem?_set_ne (by omega)]
  · rename_i h
    have hfe : fz t = t.length := by omega
    rw [hfe]
    by_cases e : j = t.length
    · subst e; simp [List.getD]
    · rw [if_neg e]
      simp only [List.getD]
      rcases Nat.lt_or_ge j t.length with h1 | h1
      · rw [List.getElem?_append_left h1]
      · rw [List.getElem?_append_right h1, List.getElem?_eq_none h1, List.getElem?_eq_none (by simp; omega)]
theorem putAt_gt (t : List GSlot) (s : GSlot) : fz t < (putAt t s).length ∧ t.length ≤ (putAt t s).length := by
  have hf := fz_le t
  unfold putAt
  split
  · simp; omega
  · simp; omega
theorem fz_free {t : List GSlot} (h : t.all slOk = true) : t.getD (fz t) default = default := by
  rcases Nat.lt_or_ge (fz t) t.length with h1 | h1
  · have hk : ((t.getD (fz t) default).Kind == 0) = true := by
      have := List.findIdx_getElem (w := (show t.findIdx (fun x => x.Kind == 0) < t.length from h1))
      rw [show t.getD (fz t) default = t[fz t] by simp [List.getD, h1]]
      exact this
    have hs : slOk (t.getD (fz t) default) = true := List.all_eq_true.1 h _ (getD_mem h1)
    have := slOk_zero hs
    rw [hk] at this
    exact (eq_of_beq this).symm
  · exact getD_over h1
theorem tbGet' (t : List GSlot) {i : Int} (h : 0 ≤ i) : tbGet t i = if ((t.getD i.toNat default).Kind == 0) = true then (default, 6) else (t.getD i.toNat default, 0) := by
  unfold tbGet
  rw [decide_eq_false (show ¬ i < 0 by omega), Bool.false_or]
  by_cases hl : (t.length : Int) ≤ i
  · rw [decide_eq_true hl, Bool.true_or, if_pos rfl, if_pos]
    rw [getD_over (by omega)]; rfl
  · rw [decide_eq_false hl, Bool.false_or]
theorem tbOk_last {t : List GSlot} (h : tbOk t = true) (h0 : 0 < t.length) : ((t.getD (t.length - 1) default).Kind == 0) = false := by
  simp only [tbOk, Bool.and_eq_true] at h
  have h2 := h.2
  rw [show ((t.length : Int) == 0) = false by simp; intro e; subst e; simp at h0, Bool.false_or] at h2
  simpa using h2
theorem putAt_ok2 {t : List GSlot} {s : GSlot} (h : tbOk t = true) (hl : (putAt t s).length ≤ 16) (hs : slOk s = true) (hk : (s.Kind == 0) = false) : tbOk (putAt t s) = true := by
  obtain ⟨-, hall⟩ := tbOk_len h
  have h1 : (putAt t s).all slOk = true := by
    rw [List.all_eq_true]
    intro x hx
    unfold putAt at hx
    split at hx
    · rcases List.mem_or_eq_of_mem_set hx with h1 | h1
      · exact List.all_eq_true.1 hall x h1
      · rw [h1]; exact hs
    · rcases List.mem_append.1 hx with h1 | h1
      · exact List.all_eq_true.1 hall x h1
      · simp at h1; rw [h1]; exact hs
  have hlen := putAt_len t s
  have hgt := putAt_gt t s
  have h3 : (((putAt t s).getD ((putAt t s).length - 1) default).Kind != 0) = true := by
    rw [putAt_get]
    split
    · rw [bne, hk]; rfl
    · rename_i hne
      have hf : fz t < t.length := by
        rcases Nat.lt_or_ge (fz t) t.length with a | a
        · exact a
        · exfalso; apply hne
          have : (putAt t s).length = t.length + 1 := by unfold putAt; rw [if_neg (by omega)]; simp
          have := fz_le t
          omega
      have he : (putAt t s).length = t.length := by unfold putAt; rw [if_pos hf]; simp
      rw [he, bne, tbOk_last h (by omega)]; rfl
  rw [tbOk, h1, decide_eq_true (by omega), h3, Bool.or_true]; rfl
theorem putAt_ok {t : List GSlot} {s : GSlot} (h : tbOk t = true) (hl : t.length ≤ 15) (hs : slOk s = true) (hk : (s.Kind == 0) = false) : tbOk (putAt t s) = true :=
  putAt_ok2 h (by have := putAt_len t s; omega) hs hk
theorem put_ok {t : List GSlot} {s : GSlot} (h : tbOk t = true) (hl : t.length ≤ 15) (hs : slOk s = true) (hk : (s.Kind == 0) = false) : tbPut t s = (putAt t s, (fz t : Int), 0) := by
  have := fz_le t
  rw [tbPut, if_neg (by rw [h, hs, hk]; simp), if_neg (by omega)]
theorem put_get {t : List GSlot} {s : GSlot} (hk : (s.Kind == 0) = false) : tbGet (putAt t s) (fz t) = (s, 0) := by
  rw [tbGet' _ (by omega), Int.toNat_natCast, putAt_get, if_pos rfl, if_neg (by rw [hk]; simp)]
theorem get_other {t : List GSlot} {s : GSlot} {i : Int} (h : 0 ≤ i) (hn : i ≠ (fz t : Int)) : tbGet (putAt t s) i = tbGet t i := by
  rw [tbGet' _ h, tbGet' _ h, putAt_get]
  simp only [if_neg (show ¬ i.toNat = fz t by omega)]
theorem stripN_to {u : List GSlot} {k : Nat} (h1 : ∀ j, k ≤ j → ((u.getD j default).Kind == 0) = true) (h2 : k = 0 ∨ ((u.getD (k - 1) default).Kind == 0) = false) : ∀ n, k ≤ n → stripN u n = k := by
  intro n
  induction n with
  | zero => intro h; simp [stripN]; omega
  | succ n ih =>
    intro h
    rcases Nat.lt_or_ge n k with a | a
    · have : k = n + 1 := by omega
      subst this
      rw [stripN, if_neg]
      rcases h2 with e | e
      · omega
      · rw [Nat.add_sub_cancel] at e; rw [e]; simp
    · rw [stripN, if_pos (h1 n a), ih a]
theorem strip_eq {u t : List GSlot} (hl : t.length ≤ u.length) (he : ∀ j, u.getD j default = t.getD j default) (ht : tbOk t = true) : strip u = t := by
  have hk : stripN u u.length = t.length := stripN_to (fun j hj => by rw [he, getD_over hj]; rfl) (by
    rcases Nat.eq_zero_or_pos t.length with e | e
    · exact .inl e
    · right; rw [he]; exact tbOk_last ht e) _ hl
  rw [strip, hk]
  apply List.ext_getElem
  · simp; omega
  · intro i h1 h2
    have := he i
    simp only [List.getD] at this
    rw [List.getElem?_eq_getElem (by omega), List.getElem?_eq_getElem h2] at this
    simpa using this
theorem put_clear {t : List GSlot} {s : GSlot} (h : tbOk t = true) (hl : t.length ≤ 15) (hs : slOk s = true) (hk : (s.Kind == 0) = false) : tbClear (putAt t s) (fz t) = (t, 0) := by
  obtain ⟨-, hall⟩ := tbOk_len h
  rw [tbClear, putAt_ok h hl hs hk, if_neg (by simp), put_get hk, if_neg (by simp), Int.toNat_natCast]
  rw [strip_eq (t := t) (by rw [List.length_set]; exact (putAt_gt t s).2) _ h]
  intro j
  by_cases e : j = fz t
  · subst e
    rw [fz_free hall]
    simp [List.getD, (putAt_gt t s).1]
  · have := putAt_get t s j
    rw [if_neg e] at this
    rw [← this]
    simp only [List.getD]
    rw [List.getElem?_set_ne (by omega)]
def kob (id k : Int) : GObject := { (default : GObject) with ID := id, Kind := k }
theorem kob_i (id k : Int) : (kob id k).ID = id := rfl
theorem kob_k (id k : Int) : (kob id k).Kind = k := rfl
attribute [push_cast] kob_i kob_k
theorem cnt_kob (id k : Int) (s : GSlot) : slCnt (kob id k) s = 0 := by
  unfold slCnt
  repeat' split
  all_goals rfl
theorem cnt_set (o : GObject) (s : GSlot) (n : Int) : slCnt (slSet o s n) s = n := by
  unfold slCnt slSet
  by_cases h2 : (s.Kind == 2) = true
  · simp [h2]
  · by_cases h3 : (s.Kind == 3) = true
    · simp [h2, h3]
    · by_cases h4 : (s.Kind == 4) = true
      · by_cases he : s.End = 0
        · simp [h2, h3, h4, he]
        · simp [h2, h3, h4, he]
      · simp [h2, h3, h4]
theorem set_set (id k : Int) (s : GSlot) (n : Int) : slSet (slSet (kob id k) s n) s 0 = kob id k := by
  unfold slSet
  by_cases h2 : (s.Kind == 2) = true
  · simp [h2]; rfl
  · by_cases h3 : (s.Kind == 3) = true
    · simp [h2, h3]; rfl
    · by_cases h4 : (s.Kind == 4) = true
      · by_cases he : s.End = 0
        · simp [h2, h3, h4, he]; rfl
        · simp [h2, h3, h4, he]; rfl
      · simp [h2, h3, h4]; rfl
theorem set_id (o : GObject) (s : GSlot) (n : Int) : (slSet o s n).ID = o.ID ∧ (slSet o s n).Kind = o.Kind := by
  unfold slSet
  repeat' split
  all_goals exact ⟨rfl, rfl⟩
theorem hold_kob {s : GSlot} (hs : slOk s = true) (hz : (slHold s == 0) = false) : tbChange (kob (slHold s) (slKind s)) s 1 = (slSet (kob (slHold s) (slKind s)) s 1, 0) := by
  have hf : tbFits (kob (slHold s) (slKind s)) s = 0 := by
    rw [fits_hold hs hz, if_neg (by simp [kob])]
  rw [hold_eq hf, cnt_kob, if_neg (by simp)]; rfl
theorem gone_kob (s : GSlot) (id : Int) : goneB (kob id (slKind s)) = (slKind s != 6) := by
  unfold slKind
  repeat' split
  all_goals rfl
theorem drop_kob {s : GSlot} (hs : slOk s = true) (hz : (slHold s == 0) = false) : tbDrop (slSet (kob (slHold s) (slKind s)) s 1) s = (kob (slHold s) (slKind s), slKind s != 6, 0) := by
  have hf : tbFits (slSet (kob (slHold s) (slKind s)) s 1) s = 0 := by
    rw [fits_hold hs hz, (set_id _ _ _).1, (set_id _ _ _).2, if_neg (by simp [kob])]
  have hc : tbChange (slSet (kob (slHold s) (slKind s)) s 1) s (-1) = (kob (slHold s) (slKind s), 0) := by
    rw [drop_eq hf, cnt_set, if_neg (by simp), show IntKind.i64.wrap (1 - 1) = 0 by decide, set_set]
  rw [tbDrop, hc, if_neg (by simp), gone_kob]
theorem keeps_other {t : List GSlot} {s : GSlot} {i : Int} (h : 0 ≤ i) : (i != (fz t : Int) && (!((tbGet t i).1 == (tbGet (putAt t s) i).1) || (tbGet t i).2 != (tbGet (putAt t s) i).2)) = false := by
  by_cases e : i = (fz t : Int)
  · rw [e]; simp
  · rw [get_other h e]; simp
set_option maxHeartbeats 4000000 in
theorem ec_TableKeeps (l : List Int) (i : Int) (hl : ∀ y ∈ l, 0 ≤ y ∧ y ≤ 255) (hi : 0 ≤ i ∧ i ≤ 255) :
    EC Try.prog 12 [slL 1 (intC .u8) default l, .int .u8 i] [] fun r B => B = [] ∧ r = .bool true := by
  obtain ⟨k, hk, hk0⟩ : ∃ k, IntKind.i64.wrap (i.tmod 16) = k ∧ 0 ≤ k := ⟨_, rfl, by rw [Int.tmod_eq_emod_of_nonneg hi.1, i64_in' (by omega)]; omega⟩
  refine EC.fin (EC.enter E_ok call_12 Try.func12 rfl (by simp [Try.ntmps12]) ?_)
  simp only [Try.ntmps12, Try.results12, bindA]
  (repeat (first | (refine EV_seq ?_; intro K hK) | refine EV_block ?_ | ((refine EV_region E_ok ?_; intro R hR fr; simp only [push_cast, bne_self_eq_false, simprocAttr]; (try (simp (disch := omega) only [i64_in', sub_elt, sub_elt0, getD_map2]; (try simp only [push_cast, bne_self_eq_false, simprocAttr])))); (repeat ((with_reducible apply And.intro); focus (first | (intro hA; exact ⟨hA, fun hB => (by first | (rw [hA, hB]; rfl) | simp_all)⟩) | omega | decide | (simp; done) | (simp; omega) | (intro hA; (repeat' apply And.intro) <;> first | exact hA | omega)))); apply_assumption -exfalso) | refine EV_skip ?_ | refine EV_scope ?_ | refine EV_label ?_ | refine EV_exit ?_ | refine EV_ret ?_ | (simp only [thenP, blockP, scopeP, if_true, reduceIte, reduceCtorEq, if_false, Nat.reduceEqDiff]; apply_assumption -exfalso)))
  ((refine EV_region E_ok ?_; intro R hR fr; simp only [push_cast, bne_self_eq_false, simprocAttr]; (try (simp (disch := omega) only [i64_in', sub_elt, sub_elt0, getD_map2]; (try simp only [push_cast, bne_self_eq_false, simprocAttr])))); (repeat ((with_reducible apply And.intro); focus (first | (intro hA; exact ⟨hA, fun hB => (by first | (rw [hA, hB]; rfl) | simp_all)⟩) | omega | decide | (simp; done) | (simp; omega) | (intro hA; (repeat' apply And.intro) <;> first | exact hA | omega)))))
  (refine EC.use (ec_law10_sane) ?_; (try simp only [hg]); refine EO_run E_ok _ 0 _ _ ?_; intro fr; simp only [push_cast, bne_self_eq_false, simprocAttr]; (try (simp (disch := omega) only [i64_in', sub_elt, sub_elt0, getD_map2]; (try simp only [push_cast, bne_self_eq_false, simprocAttr]))); (repeat ((with_reducible apply And.intro); focus (first | (intro hA; exact ⟨hA, fun hB => (by first | (rw [hA, hB]; rfl) | simp_all)⟩) | omega | decide | (simp; done) | (simp; omega) | (intro hA; (repeat' apply And.intro) <;> first | exact hA | omega)))); (try apply_assumption -exfalso))
  (repeat (first | (refine EV_seq ?_; intro K hK) | refine EV_block ?_ | ((refine EV_region E_ok ?_; intro R hR fr; simp only [push_cast, bne_self_eq_false, simprocAttr]; (try (simp (disch := omega) only [i64_in', sub_elt, sub_elt0, getD_map2]; (try simp only [push_cast, bne_self_eq_false, simprocAttr])))); (repeat ((with_reducible apply And.intro); focus (first | (intro hA; exact ⟨hA, fun hB => (by first | (rw [hA, hB]; rfl) | simp_all)⟩) | omega | decide | (simp; done) | (simp; omega) | (intro hA; (repeat' apply And.intro) <;> first | exact hA | omega)))); apply_assumption -exfalso) | refine EV_skip ?_ | refine EV_scope ?_ | refine EV_label ?_ | refine EV_exit ?_ | refine EV_ret ?_ | (simp only [thenP, blockP, scopeP, if_true, reduceIte, reduceCtorEq, if_false, Nat.reduceEqDiff]; apply_assumption -exfalso)))
  (apply EV_cond; exact rfl; all_goals intro h)
  · simp at h
  clear h
  (repeat (first | (refine EV_seq ?_; intro K hK) | refine EV_block ?_ | ((refine EV_region E_ok ?_; intro R hR fr; simp only [push_cast, bne_self_eq_false, simprocAttr]; (try (simp (disch := omega) only [i64_in', sub_elt, sub_elt0, getD_map2]; (try simp only [push_cast, bne_self_eq_false, simprocAttr])))); (repeat ((with_reducible apply And.intro); focus (first | (intro hA; exact ⟨hA, fun hB => (by first | (rw [hA, hB]; rfl) | simp_all)⟩) | omega | decide | (simp; done) | (simp; omega) | (intro hA; (repeat' apply And.intro) <;> first | exact hA | omega)))); apply_assumption -exfalso) | refine EV_skip ?_ | refine EV_scope ?_ | refine EV_label ?_ | refine EV_exit ?_ | refine EV_ret ?_ | (simp only [thenP, blockP, scopeP, if_true, reduceIte, reduceCtorEq, if_false, Nat.reduceEqDiff]; apply_assumption -exfalso)))
  ((refine EV_region E_ok ?_; intro R hR fr; simp only [push_cast, bne_self_eq_false, simprocAttr]; (try (simp (disch := omega) only [i64_in', sub_elt, sub_elt0, getD_map2]; (try simp only [push_cast, bne_self_eq_false, simprocAttr])))); (repeat ((with_reducible apply And.intro); focus (first | (intro hA; exact ⟨hA, fun hB => (by first | (rw [hA, hB]; rfl) | simp_all)⟩) | omega | decide | (simp; done) | (simp; omega) | (intro hA; (repeat' apply And.intro) <;> first | exact hA | omega)))))
  have hd : wfD { l := l.take 400 } := ⟨by simp; omega, fun y hy => hl y (List.mem_of_mem_take hy)⟩
  refine EC.useM (R := fun h i => .rptr i h 1 0 0) (ec_dice_New l) (fun _ _ _ => SLe.rptr) ?_; intro rh
  ((try simp only [hg]); refine EO_run E_ok _ 0 _ _ ?_; intro fr; simp only [push_cast, bne_self_eq_false, simprocAttr]; (try (simp (disch := omega) only [i64_in', sub_elt, sub_elt0, getD_map2]; (try simp only [push_cast, bne_self_eq_false, simprocAttr]))); (repeat ((with_reducible apply And.intro); focus (first | (intro hA; exact ⟨hA, fun hB => (by first | (rw [hA, hB]; rfl) | simp_all)⟩) | omega | decide | (simp; done) | (simp; omega) | (intro hA; (repeat' apply And.intro) <;> first | exact hA | omega)))); (try apply_assumption -exfalso))
  (repeat (first | (refine EV_seq ?_; intro K hK) | refine EV_block ?_ | ((refine EV_region E_ok ?_; intro R hR fr; simp only [push_cast, bne_self_eq_false, simprocAttr]; (try (simp (disch := omega) only [i64_in', sub_elt, sub_elt0, getD_map2]; (try simp only [push_cast, bne_self_eq_false, simprocAttr])))); (repeat ((with_reducible apply And.intro); focus (first | (intro hA; exact ⟨hA, fun hB => (by first | (rw [hA, hB]; rfl) | simp_all)⟩) | omega | decide | (simp; done) | (simp; omega) | (intro hA; (repeat' apply And.intro) <;> first | exact hA | omega)))); apply_assumption -exfalso) | refine EV_skip ?_ | refine EV_scope ?_ | refine EV_label ?_ | refine EV_exit ?_ | refine EV_ret ?_ | (simp only [thenP, blockP, scopeP, if_true, reduceIte, reduceCtorEq, if_false, Nat.reduceEqDiff]; apply_assumption -exfalso)))
  ((refine EV_region E_ok ?_; intro R hR fr; simp only [push_cast, bne_self_eq_false, simprocAttr]; (try (simp (disch := omega) only [i64_in', sub_elt, sub_elt0, getD_map2]; (try simp only [push_cast, bne_self_eq_false, simprocAttr])))); (repeat ((with_reducible apply And.intro); focus (first | (intro hA; exact ⟨hA, fun hB => (by first | (rw [hA, hB]; rfl) | simp_all)⟩) | omega | decide | (simp; done) | (simp; omega) | (intro hA; (repeat' apply And.intro) <;> first | exact hA | omega)))))
  (refine EC.useAtE 0 (ec_made_Table _ _ hd) rfl (by (repeat (first | exact LLe.nil | refine LLe.cons (SLe.refl _) ?_ | refine LLe.cons SLe.rptr ?_))) ?_; rintro ⟨t, d2⟩ ⟨ht, ht5, hd2⟩; (try simp only [hg]); refine EO_run E_ok _ 0 _ _ ?_; intro fr; simp only [push_cast, bne_self_eq_false, simprocAttr]; (try (simp (disch := omega) only [i64_in', sub_elt, sub_elt0, getD_map2]; (try simp only [push_cast, bne_self_eq_false, simprocAttr]))); (repeat ((with_reducible apply And.intro); focus (first | (intro hA; exact ⟨hA, fun hB => (by first | (rw [hA, hB]; rfl) | simp_all)⟩) | omega | decide | (simp; done) | (simp; omega) | (intro hA; (repeat' apply And.intro) <;> first | exact hA | omega)))); (try apply_assumption -exfalso))
  dsimp only at ht ht5 hd2
  (refine EC.useAtE 0 (ec_made_Slot _ _ hd2) rfl (by (repeat (first | exact LLe.nil | refine LLe.cons (SLe.refl _) ?_ | refine LLe.cons SLe.rptr ?_))) ?_; rintro ⟨s, d3⟩ ⟨hs, hs0, -⟩; (try simp only [hg]); refine EO_run E_ok _ 0 _ _ ?_; intro fr; simp only [push_cast, bne_self_eq_false, simprocAttr]; (try (simp (disch := omega) only [i64_in', sub_elt, sub_elt0, getD_map2]; (try simp only [push_cast, bne_self_eq_false, simprocAttr]))); (repeat ((with_reducible apply And.intro); focus (first | (intro hA; exact ⟨hA, fun hB => (by first | (rw [hA, hB]; rfl) | simp_all)⟩) | omega | decide | (simp; done) | (simp; omega) | (intro hA; (repeat' apply And.intro) <;> first | exact hA | omega)))); (try apply_assumption -exfalso))
  dsimp only at hs hs0
  have hput := put_ok ht (by omega) hs hs0
  have hget := put_get (t := t) hs0
  have hclr := put_clear ht (by omega) hs hs0
  have hoth := keeps_other (t := t) (s := s) hk0
  have hval := putAt_ok ht (by omega) hs hs0
  have hpl := putAt_len t s
  have c1 := ec_table_Put t s (by omega)
  have c2 := ec_table_Get (putAt t s) (fz t) (by omega)
  have c3 := ec_table_Clear (putAt t s) (fz t) (by omega)
  have c4 := ec_table_Get t k (by omega)
  have c5 := ec_table_Get (putAt t s) k (by omega)
  have c6 := ec_ref10_Same t t (by omega) (by omega)
  have c7 := ec_table_Valid (putAt t s) (by omega)
  rw [hput] at c1
  rw [hget] at c2
  rw [hclr] at c3
  rw [hval] at c7
  have hfz : (fz t : Int) ≤ 5 := by have := fz_le t; omega
  (repeat (first | (refine EV_seq ?_; intro K hK) | refine EV_block ?_ | ((refine EV_region E_ok ?_; intro R hR fr; simp only [push_cast, bne_self_eq_false, simprocAttr]; (try (simp (disch := omega) only [i64_in', sub_elt, sub_elt0, getD_map2]; (try simp only [push_cast, bne_self_eq_false, simprocAttr])))); (repeat ((with_reducible apply And.intro); focus (first | (intro hA; exact ⟨hA, fun hB => (by first | (rw [hA, hB]; rfl) | simp_all)⟩) | omega | decide | (simp; done) | (simp; omega) | (intro hA; (repeat' apply And.intro) <;> first | exact hA | omega)))); apply_assumption -exfalso) | refine EV_skip ?_ | refine EV_scope ?_ | refine EV_label ?_ | refine EV_exit ?_ | refine EV_ret ?_ | (simp only [thenP, blockP, scopeP, if_true, reduceIte, reduceCtorEq, if_false, Nat.reduceEqDiff]; apply_assumption -exfalso)))
  ((refine EV_region E_ok ?_; intro R hR fr; simp only [push_cast, bne_self_eq_false, simprocAttr]; (try (simp (disch := omega) only [i64_in', sub_elt, sub_elt0, getD_map2]; (try simp only [push_cast, bne_self_eq_false, simprocAttr])))); (repeat ((with_reducible apply And.intro); focus (first | (intro hA; exact ⟨hA, fun hB => (by first | (rw [hA, hB]; rfl) | simp_all)⟩) | omega | decide | (simp; done) | (simp; omega) | (intro hA; (repeat' apply And.intro) <;> first | exact hA | omega)))))
  (refine EC.use (c1) ?_; (try simp only [hg]); refine EO_run E_ok _ 0 _ _ ?_; intro fr; simp only [push_cast, bne_self_eq_false, simprocAttr]; (try (simp (disch := omega) only [i64_in', sub_elt, sub_elt0, getD_map2]; (try simp only [push_cast, bne_self_eq_false, simprocAttr]))); (repeat ((with_reducible apply And.intro); focus (first | (intro hA; exact ⟨hA, fun hB => (by first | (rw [hA, hB]; rfl) | simp_all)⟩) | omega | decide | (simp; done) | (simp; omega) | (intro hA; (repeat' apply And.intro) <;> first | exact hA | omega)))); (try apply_assumption -exfalso))
  (repeat (first | (refine EV_seq ?_; intro K hK) | refine EV_block ?_ | ((refine EV_region E_ok ?_; intro R hR fr; simp only [push_cast, bne_self_eq_false, simprocAttr]; (try (simp (disch := omega) only [i64_in', sub_elt, sub_elt0, getD_map2]; (try simp only [push_cast, bne_self_eq_false, simprocAttr])))); (repeat ((with_reducible apply And.intro); focus (first | (intro hA; exact ⟨hA, fun hB => (by first | (rw [hA, hB]; rfl) | simp_all)⟩) | omega | decide | (simp; done) | (simp; omega) | (intro hA; (repeat' apply And.intro) <;> first | exact hA | omega)))); apply_assumption -exfalso) | refine EV_skip ?_ | refine EV_scope ?_ | refine EV_label ?_ | refine EV_exit ?_ | refine EV_ret ?_ | (simp only [thenP, blockP, scopeP, if_true, reduceIte, reduceCtorEq, if_false, Nat.reduceEqDiff]; apply_assumption -exfalso)))
  ((refine EV_region E_ok ?_; intro R hR fr; simp only [push_cast, bne_self_eq_false, simprocAttr]; (try (simp (disch := omega) only [i64_in', sub_elt, sub_elt0, getD_map2]; (try simp only [push_cast, bne_self_eq_false, simprocAttr])))); (repeat ((with_reducible apply And.intro); focus (first | (intro hA; exact ⟨hA, fun hB => (by first | (rw [hA, hB]; rfl) | simp_all)⟩) | omega | decide | (simp; done) | (simp; omega) | (intro hA; (repeat' apply And.intro) <;> first | exact hA | omega)))))
  (refine EC.use (c2) ?_; (try simp only [hg]); refine EO_run E_ok _ 0 _ _ ?_; intro fr; simp only [push_cast, bne_self_eq_false, simprocAttr]; (try (simp (disch := omega) only [i64_in', sub_elt, sub_elt0, getD_map2]; (try simp only [push_cast, bne_self_eq_false, simprocAttr]))); (repeat ((with_reducible apply And.intro); focus (first | (intro hA; exact ⟨hA, fun hB => (by first | (rw [hA, hB]; rfl) | simp_all)⟩) | omega | decide | (simp; done) | (simp; omega) | (intro hA; (repeat' apply And.intro) <;> first | exact hA | omega)))); (try apply_assumption -exfalso))
  (repeat (first | (refine EV_seq ?_; intro K hK) | refine EV_block ?_ | ((refine EV_region E_ok ?_; intro R hR fr; simp only [push_cast, bne_self_eq_false, simprocAttr]; (try (simp (disch := omega) only [i64_in', sub_elt, sub_elt0, getD_map2]; (try simp only [push_cast, bne_self_eq_false, simprocAttr])))); (repeat ((with_reducible apply And.intro); focus (first | (intro hA; exact ⟨hA, fun hB => (by first | (rw [hA, hB]; rfl) | simp_all)⟩) | omega | decide | (simp; done) | (simp; omega) | (intro hA; (repeat' apply And.intro) <;> first | exact hA | omega)))); apply_assumption -exfalso) | refine EV_skip ?_ | refine EV_scope ?_ | refine EV_label ?_ | refine EV_exit ?_ | refine EV_ret ?_ | (simp only [thenP, blockP, scopeP, if_true, reduceIte, reduceCtorEq, if_false, Nat.reduceEqDiff]; apply_assumption -exfalso)))
  ((refine EV_region E_ok ?_; intro R hR fr; simp only [push_cast, bne_self_eq_false, simprocAttr]; (try (simp (disch := omega) only [i64_in', sub_elt, sub_elt0, getD_map2]; (try simp only [push_cast, bne_self_eq_false, simprocAttr])))); (repeat ((with_reducible apply And.intro); focus (first | (intro hA; exact ⟨hA, fun hB => (by first | (rw [hA, hB]; rfl) | simp_all)⟩) | omega | decide | (simp; done) | (simp; omega) | (intro hA; (repeat' apply And.intro) <;> first | exact hA | omega)))))
  (refine EC.use (c3) ?_; (try simp only [hg]); refine EO_run E_ok _ 0 _ _ ?_; intro fr; simp only [push_cast, bne_self_eq_false, simprocAttr]; (try (simp (disch := omega) only [i64_in', sub_elt, sub_elt0, getD_map2]; (try simp only [push_cast, bne_self_eq_false, simprocAttr]))); (repeat ((with_reducible apply And.intro); focus (first | (intro hA; exact ⟨hA, fun hB => (by first | (rw [hA, hB]; rfl) | simp_all)⟩) | omega | decide | (simp; done) | (simp; omega) | (intro hA; (repeat' apply And.intro) <;> first | exact hA | omega)))); (try apply_assumption -exfalso))
  (repeat (first | (refine EV_seq ?_; intro K hK) | refine EV_block ?_ | ((refine EV_region E_ok ?_; intro R hR fr; simp only [push_cast, bne_self_eq_false, simprocAttr]; (try (simp (disch := omega) only [i64_in', sub_elt, sub_elt0, getD_map2]; (try simp only [push_cast, bne_self_eq_false, simprocAttr])))); (repeat ((with_reducible apply And.intro); focus (first | (intro hA; exact ⟨hA, fun hB => (by first | (rw [hA, hB]; rfl) | simp_all)⟩) | omega | decide | (simp; done) | (simp; omega) | (intro hA; (repeat' apply And.intro) <;> first | exact hA | omega)))); apply_assumption -exfalso) | refine EV_skip ?_ | refine EV_scope ?_ | refine EV_label ?_ | refine EV_exit ?_ | refine EV_ret ?_ | (simp only [thenP, blockP, scopeP, if_true, reduceIte, reduceCtorEq, if_false, Nat.reduceEqDiff]; apply_assumption -exfalso)))
  ((refine EV_region E_ok ?_; intro R hR fr; simp only [push_cast, bne_self_eq_false, simprocAttr]; (try (simp (disch := omega) only [i64_in', sub_elt, sub_elt0, getD_map2]; (try simp only [push_cast, bne_self_eq_false, simprocAttr])))); (repeat ((with_reducible apply And.intro); focus (first | (intro hA; exact ⟨hA, fun hB => (by first | (rw [hA, hB]; rfl) | simp_all)⟩) | omega | decide | (simp; done) | (simp; omega) | (intro hA; (repeat' apply And.intro) <;> first | exact hA | omega)))))
  simp only [hk]
  (refine EC.use (c4) ?_; (try simp only [hg]); refine EO_run E_ok _ 0 _ _ ?_; intro fr; simp only [push_cast, bne_self_eq_false, simprocAttr]; (try (simp (disch := omega) only [i64_in', sub_elt, sub_elt0, getD_map2]; (try simp only [push_cast, bne_self_eq_false, simprocAttr]))); (repeat ((with_reducible apply And.intro); focus (first | (intro hA; exact ⟨hA, fun hB => (by first | (rw [hA, hB]; rfl) | simp_all)⟩) | omega | decide | (simp; done) | (simp; omega) | (intro hA; (repeat' apply And.intro) <;> first | exact hA | omega)))); (try apply_assumption -exfalso))
  (repeat (first | (refine EV_seq ?_; intro K hK) | refine EV_block ?_ | ((refine EV_region E_ok ?_; intro R hR fr; simp only [push_cast, bne_self_eq_false, simprocAttr]; (try (simp (disch := omega) only [i64_in', sub_elt, sub_elt0, getD_map2]; (try simp only [push_cast, bne_self_eq_false, simprocAttr])))); (repeat ((with_reducible apply And.intro); focus (first | (intro hA; exact ⟨hA, fun hB => (by first | (rw [hA, hB]; rfl) | simp_all)⟩) | omega | decide | (simp; done) | (simp; omega) | (intro hA; (repeat' apply And.intro) <;> first | exact hA | omega)))); apply_assumption -exfalso) | refine EV_skip ?_ | refine EV_scope ?_ | refine EV_label ?_ | refine EV_exit ?_ | refine EV_ret ?_ | (simp only [thenP, blockP, scopeP, if_true, reduceIte, reduceCtorEq, if_false, Nat.reduceEqDiff]; apply_assumption -exfalso)))
  ((refine EV_region E_ok ?_; intro R hR fr; simp only [push_cast, bne_self_eq_false, simprocAttr]; (try (simp (disch := omega) only [i64_in', sub_elt, sub_elt0, getD_map2]; (try simp only [push_cast, bne_self_eq_false, simprocAttr])))); (repeat ((with_reducible apply And.intro); focus (first | (intro hA; exact ⟨hA, fun hB => (by first | (rw [hA, hB]; rfl) | simp_all)⟩) | omega | decide | (simp; done) | (simp; omega) | (intro hA; (repeat' apply And.intro) <;> first | exact hA | omega)))))
  simp only [hk]
  (refine EC.use (c5) ?_; (try simp only [hg]); refine EO_run E_ok _ 0 _ _ ?_; intro fr; simp only [push_cast, bne_self_eq_false, simprocAttr]; (try (simp (disch := omega) only [i64_in', sub_elt, sub_elt0, getD_map2]; (try simp only [push_cast, bne_self_eq_false, simprocAttr]))); (repeat ((with_reducible apply And.intro); focus (first | (intro hA; exact ⟨hA, fun hB => (by first | (rw [hA, hB]; rfl) | simp_all)⟩) | omega | decide | (simp; done) | (simp; omega) | (intro hA; (repeat' apply And.intro) <;> first | exact hA | omega)))); (try apply_assumption -exfalso))
  (repeat (first | (refine EV_seq ?_; intro K hK) | refine EV_block ?_ | ((refine EV_region E_ok ?_; intro R hR fr; simp only [push_cast, bne_self_eq_false, simprocAttr]; (try (simp (disch := omega) only [i64_in', sub_elt, sub_elt0, getD_map2]; (try simp only [push_cast, bne_self_eq_false, simprocAttr])))); (repeat ((with_reducible apply And.intro); focus (first | (intro hA; exact ⟨hA, fun hB => (by first | (rw [hA, hB]; rfl) | simp_all)⟩) | omega | decide | (simp; done) | (simp; omega) | (intro hA; (repeat' apply And.intro) <;> first | exact hA | omega)))); apply_assumption -exfalso) | refine EV_skip ?_ | refine EV_scope ?_ | refine EV_label ?_ | refine EV_exit ?_ | refine EV_ret ?_ | (simp only [thenP, blockP, scopeP, if_true, reduceIte, reduceCtorEq, if_false, Nat.reduceEqDiff]; apply_assumption -exfalso)))
  ((refine EV_region E_ok ?_; intro R hR fr; simp only [push_cast, bne_self_eq_false, simprocAttr]; (try (simp (disch := omega) only [i64_in', sub_elt, sub_elt0, getD_map2]; (try simp only [push_cast, bne_self_eq_false, simprocAttr])))); (repeat ((with_reducible apply And.intro); focus (first | (intro hA; exact ⟨hA, fun hB => (by first | (rw [hA, hB]; rfl) | simp_all)⟩) | omega | decide | (simp; done) | (simp; omega) | (intro hA; (repeat' apply And.intro) <;> first | exact hA | omega)))))
  (refine EC.use (c6) ?_; (try simp only [hg]); refine EO_run E_ok _ 0 _ _ ?_; intro fr; simp only [push_cast, bne_self_eq_false, simprocAttr]; (try (simp (disch := omega) only [i64_in', sub_elt, sub_elt0, getD_map2]; (try simp only [push_cast, bne_self_eq_false, simprocAttr]))); (repeat ((with_reducible apply And.intro); focus (first | (intro hA; exact ⟨hA, fun hB => (by first | (rw [hA, hB]; rfl) | simp_all)⟩) | omega | decide | (simp; done) | (simp; omega) | (intro hA; (repeat' apply And.intro) <;> first | exact hA | omega)))); (try apply_assumption -exfalso))
  simp only [hk]
  refine ⟨fun hg => ?_, fun hg => ?_⟩
  rotate_left 1
  · rw [hoth] at hg; simp at hg
  (refine EC.use (c7) ?_; (try simp only [hg]); refine EO_run E_ok _ 0 _ _ ?_; intro fr; simp only [push_cast, bne_self_eq_false, simprocAttr]; (try (simp (disch := omega) only [i64_in', sub_elt, sub_elt0, getD_map2]; (try simp only [push_cast, bne_self_eq_false, simprocAttr]))); (repeat ((with_reducible apply And.intro); focus (first | (intro hA; exact ⟨hA, fun hB => (by first | (rw [hA, hB]; rfl) | simp_all)⟩) | omega | decide | (simp; done) | (simp; omega) | (intro hA; (repeat' apply And.intro) <;> first | exact hA | omega)))); (try apply_assumption -exfalso))
  (repeat (first | (refine EV_seq ?_; intro K hK) | refine EV_block ?_ | ((refine EV_region E_ok ?_; intro R hR fr; simp only [push_cast, bne_self_eq_false, simprocAttr]; (try (simp (disch := omega) only [i64_in', sub_elt, sub_elt0, getD_map2]; (try simp only [push_cast, bne_self_eq_false, simprocAttr])))); (repeat ((with_reducible apply And.intro); focus (first | (intro hA; exact ⟨hA, fun hB => (by first | (rw [hA, hB]; rfl) | simp_all)⟩) | omega | decide | (simp; done) | (simp; omega) | (intro hA; (repeat' apply And.intro) <;> first | exact hA | omega)))); apply_assumption -exfalso) | refine EV_skip ?_ | refine EV_scope ?_ | refine EV_label ?_ | refine EV_exit ?_ | refine EV_ret ?_ | (simp only [thenP, blockP, scopeP, if_true, reduceIte, reduceCtorEq, if_false, Nat.reduceEqDiff]; apply_assumption -exfalso)))
  (apply EV_cond; exact rfl; all_goals intro h)
  · simp at h
  clear h hoth hg
  (repeat (first | (refine EV_seq ?_; intro K hK) | refine EV_block ?_ | ((refine EV_region E_ok ?_; intro R hR fr; simp only [push_cast, bne_self_eq_false, simprocAttr]; (try (simp (disch := omega) only [i64_in', sub_elt, sub_elt0, getD_map2]; (try simp only [push_cast, bne_self_eq_false, simprocAttr])))); (repeat ((with_reducible apply And.intro); focus (first | (intro hA; exact ⟨hA, fun hB => (by first | (rw [hA, hB]; rfl) | simp_all)⟩) | omega | decide | (simp; done) | (simp; omega) | (intro hA; (repeat' apply And.intro) <;> first | exact hA | omega)))); apply_assumption -exfalso) | refine EV_skip ?_ | refine EV_scope ?_ | refine EV_label ?_ | refine EV_exit ?_ | refine EV_ret ?_ | (simp only [thenP, blockP, scopeP, if_true, reduceIte, reduceCtorEq, if_false, Nat.reduceEqDiff]; apply_assumption -exfalso)))
  ((refine EV_region E_ok ?_; intro R hR fr; simp only [push_cast, bne_self_eq_false, simprocAttr]; (try (simp (disch := omega) only [i64_in', sub_elt, sub_elt0, getD_map2]; (try simp only [push_cast, bne_self_eq_false, simprocAttr])))); (repeat ((with_reducible apply And.intro); focus (first | (intro hA; exact ⟨hA, fun hB => (by first | (rw [hA, hB]; rfl) | simp_all)⟩) | omega | decide | (simp; done) | (simp; omega) | (intro hA; (repeat' apply And.intro) <;> first | exact hA | omega)))))
  (refine EC.use (ec_table_Holder s) ?_; (try simp only [hg]); refine EO_run E_ok _ 0 _ _ ?_; intro fr; simp only [push_cast, bne_self_eq_false, simprocAttr]; (try (simp (disch := omega) only [i64_in', sub_elt, sub_elt0, getD_map2]; (try simp only [push_cast, bne_self_eq_false, simprocAttr]))); (repeat ((with_reducible apply And.intro); focus (first | (intro hA; exact ⟨hA, fun hB => (by first | (rw [hA, hB]; rfl) | simp_all)⟩) | omega | decide | (simp; done) | (simp; omega) | (intro hA; (repeat' apply And.intro) <;> first | exact hA | omega)))); (try apply_assumption -exfalso))
  (repeat (first | (refine EV_seq ?_; intro K hK) | ((refine EV_region E_ok ?_; intro R hR fr; simp only [push_cast, bne_self_eq_false, simprocAttr]; (try (simp (disch := omega) only [i64_in', sub_elt, sub_elt0, getD_map2]; (try simp only [push_cast, bne_self_eq_false, simprocAttr])))); (repeat ((with_reducible apply And.intro); focus (first | (intro hA; exact ⟨hA, fun hB => (by first | (rw [hA, hB]; rfl) | simp_all)⟩) | omega | decide | (simp; done) | (simp; omega) | (intro hA; (repeat' apply And.intro) <;> first | exact hA | omega)))); apply_assumption -exfalso) | refine EV_skip ?_ | refine EV_scope ?_ | refine EV_label ?_ | refine EV_exit ?_ | refine EV_ret ?_ | (simp only [thenP, blockP, scopeP, if_true, reduceIte, reduceCtorEq, if_false, Nat.reduceEqDiff]; apply_assumption -exfalso)))
  refine EV_meetB (σ := Int) [4, 7, 19] (fun K => []) (fun B K => updX B 5 [(kob (slHold s) K).c]) (fun K => K = slKind s) ?_ ?_
  rotate_left 1
  · refine EV_block ?_
    (repeat (first | (refine EV_seq ?_; intro K hK) | refine EV_block ?_ | ((refine EV_region E_ok ?_; intro R hR fr; simp only [push_cast, bne_self_eq_false, simprocAttr]; (try (simp (disch := omega) only [i64_in', sub_elt, sub_elt0, getD_map2]; (try simp only [push_cast, bne_self_eq_false, simprocAttr])))); (repeat ((with_reducible apply And.intro); focus (first | (intro hA; exact ⟨hA, fun hB => (by first | (rw [hA, hB]; rfl) | simp_all)⟩) | omega | decide | (simp; done) | (simp; omega) | (intro hA; (repeat' apply And.intro) <;> first | exact hA | omega)))); apply_assumption -exfalso) | refine EV_skip ?_ | refine EV_scope ?_ | refine EV_label ?_ | refine EV_exit ?_ | refine EV_ret ?_ | (simp only [thenP, blockP, scopeP, if_true, reduceIte, reduceCtorEq, if_false, Nat.reduceEqDiff]; apply_assumption -exfalso)))
    (apply EV_cond; exact rfl; all_goals intro h)
    · (repeat (first | (refine EV_seq ?_; intro K hK) | refine EV_block ?_ | ((refine EV_region E_ok ?_; intro R hR fr; simp only [push_cast, bne_self_eq_false, simprocAttr]; (try (simp (disch := omega) only [i64_in', sub_elt, sub_elt0, getD_map2]; (try simp only [push_cast, bne_self_eq_false, simprocAttr])))); (repeat ((with_reducible apply And.intro); focus (first | (intro hA; exact ⟨hA, fun hB => (by first | (rw [hA, hB]; rfl) | simp_all)⟩) | omega | decide | (simp; done) | (simp; omega) | (intro hA; (repeat' apply And.intro) <;> first | exact hA | omega)))); apply_assumption -exfalso) | refine EV_skip ?_ | refine EV_scope ?_ | refine EV_label ?_ | refine EV_exit ?_ | refine EV_ret ?_ | (simp only [thenP, blockP, scopeP, if_true, reduceIte, reduceCtorEq, if_false, Nat.reduceEqDiff]; apply_assumption -exfalso)))
      (simp only [thenP, blockP, scopeP, if_true, reduceIte, reduceCtorEq, if_false]; refine ⟨4, ?_, (by first | (simp [wkS, lkp, List.take_length]; done) | repeat (first | exact trivial | refine And.intro (by first | rfl | (simp only [lkp, push_cast, bne_self_eq_false, simprocAttr]; done) | (simp [lkp]; done)) ?_)), (by first | rfl | (simp only [push_cast, List.take_length, List.take_append_of_le_length, bne_self_eq_false, simprocAttr]; done) | (simp [updX, updH, setX]; done))⟩)
      rw [slKind, if_pos h]
    have h1 := h
    clear h
    (repeat (first | (refine EV_seq ?_; intro K hK) | refine EV_block ?_ | ((refine EV_region E_ok ?_; intro R hR fr; simp only [push_cast, bne_self_eq_false, simprocAttr]; (try (simp (disch := omega) only [i64_in', sub_elt, sub_elt0, getD_map2]; (try simp only [push_cast, bne_self_eq_false, simprocAttr])))); (repeat ((with_reducible apply And.intro); focus (first | (intro hA; exact ⟨hA, fun hB => (by first | (rw [hA, hB]; rfl) | simp_all)⟩) | omega | decide | (simp; done) | (simp; omega) | (intro hA; (repeat' apply And.intro) <;> first | exact hA | omega)))); apply_assumption -exfalso) | refine EV_skip ?_ | refine EV_scope ?_ | refine EV_label ?_ | refine EV_exit ?_ | refine EV_ret ?_ | (simp only [thenP, blockP, scopeP, if_true, reduceIte, reduceCtorEq, if_false, Nat.reduceEqDiff]; apply_assumption -exfalso)))
    refine EV_meetB (σ := Bool) [4, 7, 19, 115] (fun b => [(119, .bool b)]) (fun B b => B) (fun b => b = (s.Kind == 2 || s.Kind == 3)) ?_ ?_
    · intro b hbb
      (intro t1 B1 ht hB; apply_assumption -exfalso; refine EV_weakR ht hB ?_)
      simp only [updX, updH, setX, keepS, lkp, Nat.reduceEqDiff, if_true, if_false, reduceIte, List.cons_append, List.nil_append, List.take_succ_cons, List.take_zero, List.append_nil]
      (repeat (first | (refine EV_seq ?_; intro K hK) | refine EV_block ?_ | ((refine EV_region E_ok ?_; intro R hR fr; simp only [push_cast, bne_self_eq_false, simprocAttr]; (try (simp (disch := omega) only [i64_in', sub_elt, sub_elt0, getD_map2]; (try simp only [push_cast, bne_self_eq_false, simprocAttr])))); (repeat ((with_reducible apply And.intro); focus (first | (intro hA; exact ⟨hA, fun hB => (by first | (rw [hA, hB]; rfl) | simp_all)⟩) | omega | decide | (simp; done) | (simp; omega) | (intro hA; (repeat' apply And.intro) <;> first | exact hA | omega)))); apply_assumption -exfalso) | refine EV_skip ?_ | refine EV_scope ?_ | refine EV_label ?_ | refine EV_exit ?_ | refine EV_ret ?_ | (simp only [thenP, blockP, scopeP, if_true, reduceIte, reduceCtorEq, if_false, Nat.reduceEqDiff]; apply_assumption -exfalso)))
      (apply EV_cond; exact rfl; all_goals intro h)
      · rw [h] at hbb
        (repeat (first | (refine EV_seq ?_; intro K hK) | refine EV_block ?_ | ((refine EV_region E_ok ?_; intro R hR fr; simp only [push_cast, bne_self_eq_false, simprocAttr]; (try (simp (disch := omega) only [i64_in', sub_elt, sub_elt0, getD_map2]; (try simp only [push_cast, bne_self_eq_false, simprocAttr])))); (repeat ((with_reducible apply And.intro); focus (first | (intro hA; exact ⟨hA, fun hB => (by first | (rw [hA, hB]; rfl) | simp_all)⟩) | omega | decide | (simp; done) | (simp; omega) | (intro hA; (repeat' apply And.intro) <;> first | exact hA | omega)))); apply_assumption -exfalso) | refine EV_skip ?_ | refine EV_scope ?_ | refine EV_label ?_ | refine EV_exit ?_ | refine EV_ret ?_ | (simp only [thenP, blockP, scopeP, if_true, reduceIte, reduceCtorEq, if_false, Nat.reduceEqDiff]; apply_assumption -exfalso)))
        (simp only [thenP, blockP, scopeP, if_true, reduceIte, reduceCtorEq, if_false]; refine ⟨5, ?_, (by first | (simp [wkS, lkp, List.take_length]; done) | repeat (first | exact trivial | refine And.intro (by first | rfl | (simp only [lkp, push_cast, bne_self_eq_false, simprocAttr]; done) | (simp [lkp]; done)) ?_)), (by first | rfl | (simp only [push_cast, List.take_length, List.take_append_of_le_length, bne_self_eq_false, simprocAttr]; done) | (simp [updX, updH, setX]; done))⟩)
        rw [slKind, if_neg (by rw [h1]; simp), if_pos hbb.symm]
      · rw [h] at hbb
        clear h
        (repeat (first | (refine EV_seq ?_; intro K hK) | refine EV_block ?_ | ((refine EV_region E_ok ?_; intro R hR fr; simp only [push_cast, bne_self_eq_false, simprocAttr]; (try (simp (disch := omega) only [i64_in', sub_elt, sub_elt0, getD_map2]; (try simp only [push_cast, bne_self_eq_false, simprocAttr])))); (repeat ((with_reducible apply And.intro); focus (first | (intro hA; exact ⟨hA, fun hB => (by first | (rw [hA, hB]; rfl) | simp_all)⟩) | omega | decide | (simp; done) | (simp; omega) | (intro hA; (repeat' apply And.intro) <;> first | exact hA | omega)))); apply_assumption -exfalso) | refine EV_skip ?_ | refine EV_scope ?_ | refine EV_label ?_ | refine EV_exit ?_ | refine EV_ret ?_ | (simp only [thenP, blockP, scopeP, if_true, reduceIte, reduceCtorEq, if_false, Nat.reduceEqDiff]; apply_assumption -exfalso)))
        (apply EV_cond; exact rfl; all_goals intro h)
        · (repeat (first | (refine EV_seq ?_; intro K hK) | refine EV_block ?_ | ((refine EV_region E_ok ?_; intro R hR fr; simp only [push_cast, bne_self_eq_false, simprocAttr]; (try (simp (disch := omega) only [i64_in', sub_elt, sub_elt0, getD_map2]; (try simp only [push_cast, bne_self_eq_false, simprocAttr])))); (repeat ((with_reducible apply And.intro); focus (first | (intro hA; exact ⟨hA, fun hB => (by first | (rw [hA, hB]; rfl) | simp_all)⟩) | omega | decide | (simp; done) | (simp; omega) | (intro hA; (repeat' apply And.intro) <;> first | exact hA | omega)))); apply_assumption -exfalso) | refine EV_skip ?_ | refine EV_scope ?_ | refine EV_label ?_ | refine EV_exit ?_ | refine EV_ret ?_ | (simp only [thenP, blockP, scopeP, if_true, reduceIte, reduceCtorEq, if_false, Nat.reduceEqDiff]; apply_assumption -exfalso)))
          (simp only [thenP, blockP, scopeP, if_true, reduceIte, reduceCtorEq, if_false]; refine ⟨7, ?_, (by first | (simp [wkS, lkp, List.take_length]; done) | repeat (first | exact trivial | refine And.intro (by first | rfl | (simp only [lkp, push_cast, bne_self_eq_false, simprocAttr]; done) | (simp [lkp]; done)) ?_)), (by first | rfl | (simp only [push_cast, List.take_length, List.take_append_of_le_length, bne_self_eq_false, simprocAttr]; done) | (simp [updX, updH, setX]; done))⟩)
          rw [slKind, if_neg (by rw [h1]; simp), if_neg (by rw [← hbb]; simp), if_pos h]
        · (repeat (first | (refine EV_seq ?_; intro K hK) | refine EV_block ?_ | ((refine EV_region E_ok ?_; intro R hR fr; simp only [push_cast, bne_self_eq_false, simprocAttr]; (try (simp (disch := omega) only [i64_in', sub_elt, sub_elt0, getD_map2]; (try simp only [push_cast, bne_self_eq_false, simprocAttr])))); (repeat ((with_reducible apply And.intro); focus (first | (intro hA; exact ⟨hA, fun hB => (by first | (rw [hA, hB]; rfl) | simp_all)⟩) | omega | decide | (simp; done) | (simp; omega) | (intro hA; (repeat' apply And.intro) <;> first | exact hA | omega)))); apply_assumption -exfalso) | refine EV_skip ?_ | refine EV_scope ?_ | refine EV_label ?_ | refine EV_exit ?_ | refine EV_ret ?_ | (simp only [thenP, blockP, scopeP, if_true, reduceIte, reduceCtorEq, if_false, Nat.reduceEqDiff]; apply_assumption -exfalso)))
          (simp only [thenP, blockP, scopeP, if_true, reduceIte, reduceCtorEq, if_false]; refine ⟨6, ?_, (by first | (simp [wkS, lkp, List.take_length]; done) | repeat (first | exact trivial | refine And.intro (by first | rfl | (simp only [lkp, push_cast, bne_self_eq_false, simprocAttr]; done) | (simp [lkp]; done)) ?_)), (by first | rfl | (simp only [push_cast, List.take_length, List.take_append_of_le_length, bne_self_eq_false, simprocAttr]; done) | (simp [updX, updH, setX]; done))⟩)
          rw [slKind, if_neg (by rw [h1]; simp), if_neg (by rw [← hbb]; simp), if_neg (by rw [h]; simp)]
    · (apply EV_cond; exact rfl; all_goals intro h)
      · (repeat (first | (refine EV_seq ?_; intro K hK) | refine EV_block ?_ | ((refine EV_region E_ok ?_; intro R hR fr; simp only [push_cast, bne_self_eq_false, simprocAttr]; (try (simp (disch := omega) only [i64_in', sub_elt, sub_elt0, getD_map2]; (try simp only [push_cast, bne_self_eq_false, simprocAttr])))); (repeat ((with_reducible apply And.intro); focus (first | (intro hA; exact ⟨hA, fun hB => (by first | (rw [hA, hB]; rfl) | simp_all)⟩) | omega | decide | (simp; done) | (simp; omega) | (intro hA; (repeat' apply And.intro) <;> first | exact hA | omega)))); apply_assumption -exfalso) | refine EV_skip ?_ | refine EV_scope ?_ | refine EV_label ?_ | refine EV_exit ?_ | refine EV_ret ?_ | (simp only [thenP, blockP, scopeP, if_true, reduceIte, reduceCtorEq, if_false, Nat.reduceEqDiff]; apply_assumption -exfalso)))
        (simp only [thenP, blockP, scopeP, if_true, reduceIte, reduceCtorEq, if_false]; refine ⟨(s.Kind == 2), ?_, (by first | (simp [wkS, lkp, List.take_length]; done) | repeat (first | exact trivial | refine And.intro (by first | rfl | (simp only [lkp, push_cast, bne_self_eq_false, simprocAttr]; done) | (simp [lkp]; done)) ?_)), (by first | rfl | (simp only [push_cast, List.take_length, List.take_append_of_le_length, bne_self_eq_false, simprocAttr]; done) | (simp [updX, updH, setX]; done))⟩)
        rw [h]; rfl
      · (repeat (first | (refine EV_seq ?_; intro K hK) | refine EV_block ?_ | ((refine EV_region E_ok ?_; intro R hR fr; simp only [push_cast, bne_self_eq_false, simprocAttr]; (try (simp (disch := omega) only [i64_in', sub_elt, sub_elt0, getD_map2]; (try simp only [push_cast, bne_self_eq_false, simprocAttr])))); (repeat ((with_reducible apply And.intro); focus (first | (intro hA; exact ⟨hA, fun hB => (by first | (rw [hA, hB]; rfl) | simp_all)⟩) | omega | decide | (simp; done) | (simp; omega) | (intro hA; (repeat' apply And.intro) <;> first | exact hA | omega)))); apply_assumption -exfalso) | refine EV_skip ?_ | refine EV_scope ?_ | refine EV_label ?_ | refine EV_exit ?_ | refine EV_ret ?_ | (simp only [thenP, blockP, scopeP, if_true, reduceIte, reduceCtorEq, if_false, Nat.reduceEqDiff]; apply_assumption -exfalso)))
        (simp only [thenP, blockP, scopeP, if_true, reduceIte, reduceCtorEq, if_false]; refine ⟨(s.Kind == 3), ?_, (by first | (simp [wkS, lkp, List.take_length]; done) | repeat (first | exact trivial | refine And.intro (by first | rfl | (simp only [lkp, push_cast, bne_self_eq_false, simprocAttr]; done) | (simp [lkp]; done)) ?_)), (by first | rfl | (simp only [push_cast, List.take_length, List.take_append_of_le_length, bne_self_eq_false, simprocAttr]; done) | (simp [updX, updH, setX]; done))⟩)
        rw [h]; rfl
  · rintro K rfl
    (intro t1 B1 ht hB; apply_assumption -exfalso; refine EV_weakR ht hB ?_)
    simp only [updX, updH, setX, keepS, lkp, Nat.reduceEqDiff, if_true, if_false, reduceIte, List.cons_append, List.nil_append, List.take_succ_cons, List.take_zero, List.append_nil]
    have hsmk : smallO (kob (slHold s) (slKind s)) := small_mk _ _
    by_cases hz : (slHold s == 0) = true
    · have hch : tbChange (kob (slHold s) (slKind s)) s 1 = (default, 10) := tbc_fit (by rw [tbFits, hs, hz]; rfl) rfl
      have c8 := ec_table_Hold _ s hsmk
      rw [hch] at c8
      (repeat (first | (refine EV_seq ?_; intro K hK) | refine EV_block ?_ | ((refine EV_region E_ok ?_; intro R hR fr; simp only [push_cast, bne_self_eq_false, simprocAttr]; (try (simp (disch := omega) only [i64_in', sub_elt, sub_elt0, getD_map2]; (try simp only [push_cast, bne_self_eq_false, simprocAttr])))); (repeat ((with_reducible apply And.intro); focus (first | (intro hA; exact ⟨hA, fun hB => (by first | (rw [hA, hB]; rfl) | simp_all)⟩) | omega | decide | (simp; done) | (simp; omega) | (intro hA; (repeat' apply And.intro) <;> first | exact hA | omega)))); apply_assumption -exfalso) | refine EV_skip ?_ | refine EV_scope ?_ | refine EV_label ?_ | refine EV_exit ?_ | refine EV_ret ?_ | (simp only [thenP, blockP, scopeP, if_true, reduceIte, reduceCtorEq, if_false, Nat.reduceEqDiff]; apply_assumption -exfalso)))
      ((refine EV_region E_ok ?_; intro R hR fr; simp only [push_cast, bne_self_eq_false, simprocAttr]; (try (simp (disch := omega) only [i64_in', sub_elt, sub_elt0, getD_map2]; (try simp only [push_cast, bne_self_eq_false, simprocAttr])))); (repeat ((with_reducible apply And.intro); focus (first | (intro hA; exact ⟨hA, fun hB => (by first | (rw [hA, hB]; rfl) | simp_all)⟩) | omega | decide | (simp; done) | (simp; omega) | (intro hA; (repeat' apply And.intro) <;> first | exact hA | omega)))))
      (refine EC.use (c8) ?_; (try simp only [hg]); refine EO_run E_ok _ 0 _ _ ?_; intro fr; simp only [push_cast, bne_self_eq_false, simprocAttr]; (try (simp (disch := omega) only [i64_in', sub_elt, sub_elt0, getD_map2]; (try simp only [push_cast, bne_self_eq_false, simprocAttr]))); (repeat ((with_reducible apply And.intro); focus (first | (intro hA; exact ⟨hA, fun hB => (by first | (rw [hA, hB]; rfl) | simp_all)⟩) | omega | decide | (simp; done) | (simp; omega) | (intro hA; (repeat' apply And.intro) <;> first | exact hA | omega)))); (try apply_assumption -exfalso))
      (repeat (first | (refine EV_seq ?_; intro K hK) | refine EV_block ?_ | ((refine EV_region E_ok ?_; intro R hR fr; simp only [push_cast, bne_self_eq_false, simprocAttr]; (try (simp (disch := omega) only [i64_in', sub_elt, sub_elt0, getD_map2]; (try simp only [push_cast, bne_self_eq_false, simprocAttr])))); (repeat ((with_reducible apply And.intro); focus (first | (intro hA; exact ⟨hA, fun hB => (by first | (rw [hA, hB]; rfl) | simp_all)⟩) | omega | decide | (simp; done) | (simp; omega) | (intro hA; (repeat' apply And.intro) <;> first | exact hA | omega)))); apply_assumption -exfalso) | refine EV_skip ?_ | refine EV_scope ?_ | refine EV_label ?_ | refine EV_exit ?_ | refine EV_ret ?_ | (simp only [thenP, blockP, scopeP, if_true, reduceIte, reduceCtorEq, if_false, Nat.reduceEqDiff]; apply_assumption -exfalso)))
      ((refine EV_region E_ok ?_; intro R hR fr; simp only [push_cast, bne_self_eq_false, simprocAttr]; (try (simp (disch := omega) only [i64_in', sub_elt, sub_elt0, getD_map2]; (try simp only [push_cast, bne_self_eq_false, simprocAttr])))); (repeat ((with_reducible apply And.intro); focus (first | (intro hA; exact ⟨hA, fun hB => (by first | (rw [hA, hB]; rfl) | simp_all)⟩) | omega | decide | (simp; done) | (simp; omega) | (intro hA; (repeat' apply And.intro) <;> first | exact hA | omega)))))
      (refine EC.use (ec_table_Drop default s small0) ?_; (try simp only [hg]); refine EO_run E_ok _ 0 _ _ ?_; intro fr; simp only [push_cast, bne_self_eq_false, simprocAttr]; (try (simp (disch := omega) only [i64_in', sub_elt, sub_elt0, getD_map2]; (try simp only [push_cast, bne_self_eq_false, simprocAttr]))); (repeat ((with_reducible apply And.intro); focus (first | (intro hA; exact ⟨hA, fun hB => (by first | (rw [hA, hB]; rfl) | simp_all)⟩) | omega | decide | (simp; done) | (simp; omega) | (intro hA; (repeat' apply And.intro) <;> first | exact hA | omega)))); (try apply_assumption -exfalso))
      (repeat (first | (refine EV_seq ?_; intro K hK) | refine EV_block ?_ | ((refine EV_region E_ok ?_; intro R hR fr; simp only [push_cast, bne_self_eq_false, simprocAttr]; (try (simp (disch := omega) only [i64_in', sub_elt, sub_elt0, getD_map2]; (try simp only [push_cast, bne_self_eq_false, simprocAttr])))); (repeat ((with_reducible apply And.intro); focus (first | (intro hA; exact ⟨hA, fun hB => (by first | (rw [hA, hB]; rfl) | simp_all)⟩) | omega | decide | (simp; done) | (simp; omega) | (intro hA; (repeat' apply And.intro) <;> first | exact hA | omega)))); apply_assumption -exfalso) | refine EV_skip ?_ | refine EV_scope ?_ | refine EV_label ?_ | refine EV_exit ?_ | refine EV_ret ?_ | (simp only [thenP, blockP, scopeP, if_true, reduceIte, reduceCtorEq, if_false, Nat.reduceEqDiff]; apply_assumption -exfalso)))
      (apply EV_cond; exact rfl; all_goals intro h)
      · (repeat (first | (refine EV_seq ?_; intro K hK) | refine EV_block ?_ | ((refine EV_region E_ok ?_; intro R hR fr; simp only [push_cast, bne_self_eq_false, simprocAttr]; (try (simp (disch := omega) only [i64_in', sub_elt, sub_elt0, getD_map2]; (try simp only [push_cast, bne_self_eq_false, simprocAttr])))); (repeat ((with_reducible apply And.intro); focus (first | (intro hA; exact ⟨hA, fun hB => (by first | (rw [hA, hB]; rfl) | simp_all)⟩) | omega | decide | (simp; done) | (simp; omega) | (intro hA; (repeat' apply And.intro) <;> first | exact hA | omega)))); apply_assumption -exfalso) | refine EV_skip ?_ | refine EV_scope ?_ | refine EV_label ?_ | refine EV_exit ?_ | refine EV_ret ?_ | (simp only [thenP, blockP, scopeP, if_true, reduceIte, reduceCtorEq, if_false, Nat.reduceEqDiff]; apply_assumption -exfalso)))
        (simp only [push_cast, thenP, blockP, scopeP, retP, evR, evRes, evRes1, Nat.zero_lt_one, Nat.reduceEqDiff, Nat.reduceLT, Nat.reduceAdd, Nat.reduceLeDiff, reduceIte, reduceCtorEq]; simp only [frzKT, frzKLA, frzKA, frzKL, frzKC, frzT, frzLA, frzA, frzL, frzC, fromM, getD', List.getD_cons_zero, List.getD_cons_succ, Nat.zero_le, decide_true, and_true, true_and, and_self, push_cast]; refine SLe.of_eq ?_; rfl)
      · rw [hz] at h; simp at h
    · have hz : (slHold s == 0) = false := by simpa using hz
      have c8 := ec_table_Hold _ s hsmk
      rw [hold_kob hs hz] at c8
      have c9 := ec_table_Drop _ s (slSet_small hsmk s 1)
      rw [drop_kob hs hz] at c9
      (repeat (first | (refine EV_seq ?_; intro K hK) | refine EV_block ?_ | ((refine EV_region E_ok ?_; intro R hR fr; simp only [push_cast, bne_self_eq_false, simprocAttr]; (try (simp (disch := omega) only [i64_in', sub_elt, sub_elt0, getD_map2]; (try simp only [push_cast, bne_self_eq_false, simprocAttr])))); (repeat ((with_reducible apply And.intro); focus (first | (intro hA; exact ⟨hA, fun hB => (by first | (rw [hA, hB]; rfl) | simp_all)⟩) | omega | decide | (simp; done) | (simp; omega) | (intro hA; (repeat' apply And.intro) <;> first | exact hA | omega)))); apply_assumption -exfalso) | refine EV_skip ?_ | refine EV_scope ?_ | refine EV_label ?_ | refine EV_exit ?_ | refine EV_ret ?_ | (simp only [thenP, blockP, scopeP, if_true, reduceIte, reduceCtorEq, if_false, Nat.reduceEqDiff]; apply_assumption -exfalso)))
      ((refine EV_region E_ok ?_; intro R hR fr; simp only [push_cast, bne_self_eq_false, simprocAttr]; (try (simp (disch := omega) only [i64_in', sub_elt, sub_elt0, getD_map2]; (try simp only [push_cast, bne_self_eq_false, simprocAttr])))); (repeat ((with_reducible apply And.intro); focus (first | (intro hA; exact ⟨hA, fun hB => (by first | (rw [hA, hB]; rfl) | simp_all)⟩) | omega | decide | (simp; done) | (simp; omega) | (intro hA; (repeat' apply And.intro) <;> first | exact hA | omega)))))
      (refine EC.use (c8) ?_; (try simp only [hg]); refine EO_run E_ok _ 0 _ _ ?_; intro fr; simp only [push_cast, bne_self_eq_false, simprocAttr]; (try (simp (disch := omega) only [i64_in', sub_elt, sub_elt0, getD_map2]; (try simp only [push_cast, bne_self_eq_false, simprocAttr]))); (repeat ((with_reducible apply And.intro); focus (first | (intro hA; exact ⟨hA, fun hB => (by first | (rw [hA, hB]; rfl) | simp_all)⟩) | omega | decide | (simp; done) | (simp; omega) | (intro hA; (repeat' apply And.intro) <;> first | exact hA | omega)))); (try apply_assumption -exfalso))
      (repeat (first | (refine EV_seq ?_; intro K hK) | refine EV_block ?_ | ((refine EV_region E_ok ?_; intro R hR fr; simp only [push_cast, bne_self_eq_false, simprocAttr]; (try (simp (disch := omega) only [i64_in', sub_elt, sub_elt0, getD_map2]; (try simp only [push_cast, bne_self_eq_false, simprocAttr])))); (repeat ((with_reducible apply And.intro); focus (first | (intro hA; exact ⟨hA, fun hB => (by first | (rw [hA, hB]; rfl) | simp_all)⟩) | omega | decide | (simp; done) | (simp; omega) | (intro hA; (repeat' apply And.intro) <;> first | exact hA | omega)))); apply_assumption -exfalso) | refine EV_skip ?_ | refine EV_scope ?_ | refine EV_label ?_ | refine EV_exit ?_ | refine EV_ret ?_ | (simp only [thenP, blockP, scopeP, if_true, reduceIte, reduceCtorEq, if_false, Nat.reduceEqDiff]; apply_assumption -exfalso)))
      ((refine EV_region E_ok ?_; intro R hR fr; simp only [push_cast, bne_self_eq_false, simprocAttr]; (try (simp (disch := omega) only [i64_in', sub_elt, sub_elt0, getD_map2]; (try simp only [push_cast, bne_self_eq_false, simprocAttr])))); (repeat ((with_reducible apply And.intro); focus (first | (intro hA; exact ⟨hA, fun hB => (by first | (rw [hA, hB]; rfl) | simp_all)⟩) | omega | decide | (simp; done) | (simp; omega) | (intro hA; (repeat' apply And.intro) <;> first | exact hA | omega)))))
      (refine EC.use (c9) ?_; (try simp only [hg]); refine EO_run E_ok _ 0 _ _ ?_; intro fr; simp only [push_cast, bne_self_eq_false, simprocAttr]; (try (simp (disch := omega) only [i64_in', sub_elt, sub_elt0, getD_map2]; (try simp only [push_cast, bne_self_eq_false, simprocAttr]))); (repeat ((with_reducible apply And.intro); focus (first | (intro hA; exact ⟨hA, fun hB => (by first | (rw [hA, hB]; rfl) | simp_all)⟩) | omega | decide | (simp; done) | (simp; omega) | (intro hA; (repeat' apply And.intro) <;> first | exact hA | omega)))); (try apply_assumption -exfalso))
      (repeat (first | (refine EV_seq ?_; intro K hK) | refine EV_block ?_ | ((refine EV_region E_ok ?_; intro R hR fr; simp only [push_cast, bne_self_eq_false, simprocAttr]; (try (simp (disch := omega) only [i64_in', sub_elt, sub_elt0, getD_map2]; (try simp only [push_cast, bne_self_eq_false, simprocAttr])))); (repeat ((with_reducible apply And.intro); focus (first | (intro hA; exact ⟨hA, fun hB => (by first | (rw [hA, hB]; rfl) | simp_all)⟩) | omega | decide | (simp; done) | (simp; omega) | (intro hA; (repeat' apply And.intro) <;> first | exact hA | omega)))); apply_assumption -exfalso) | refine EV_skip ?_ | refine EV_scope ?_ | refine EV_label ?_ | refine EV_exit ?_ | refine EV_ret ?_ | (simp only [thenP, blockP, scopeP, if_true, reduceIte, reduceCtorEq, if_false, Nat.reduceEqDiff]; apply_assumption -exfalso)))
      (apply EV_cond; exact rfl; all_goals intro h)
      · rw [hz] at h; simp at h
      (repeat (first | (refine EV_seq ?_; intro K hK) | refine EV_block ?_ | ((refine EV_region E_ok ?_; intro R hR fr; simp only [push_cast, bne_self_eq_false, simprocAttr]; (try (simp (disch := omega) only [i64_in', sub_elt, sub_elt0, getD_map2]; (try simp only [push_cast, bne_self_eq_false, simprocAttr])))); (repeat ((with_reducible apply And.intro); focus (first | (intro hA; exact ⟨hA, fun hB => (by first | (rw [hA, hB]; rfl) | simp_all)⟩) | omega | decide | (simp; done) | (simp; omega) | (intro hA; (repeat' apply And.intro) <;> first | exact hA | omega)))); apply_assumption -exfalso) | refine EV_skip ?_ | refine EV_scope ?_ | refine EV_label ?_ | refine EV_exit ?_ | refine EV_ret ?_ | (simp only [thenP, blockP, scopeP, if_true, reduceIte, reduceCtorEq, if_false, Nat.reduceEqDiff]; apply_assumption -exfalso)))
      ((refine EV_region E_ok ?_; intro R hR fr; simp only [push_cast, bne_self_eq_false, simprocAttr]; (try (simp (disch := omega) only [i64_in', sub_elt, sub_elt0, getD_map2]; (try simp only [push_cast, bne_self_eq_false, simprocAttr])))); (repeat ((with_reducible apply And.intro); focus (first | (intro hA; exact ⟨hA, fun hB => (by first | (rw [hA, hB]; rfl) | simp_all)⟩) | omega | decide | (simp; done) | (simp; omega) | (intro hA; (repeat' apply And.intro) <;> first | exact hA | omega)))))
      (refine EC.use (ec_same_Object _ hsmk) ?_; (try simp only [hg]); refine EO_run E_ok _ 0 _ _ ?_; intro fr; simp only [push_cast, bne_self_eq_false, simprocAttr]; (try (simp (disch := omega) only [i64_in', sub_elt, sub_elt0, getD_map2]; (try simp only [push_cast, bne_self_eq_false, simprocAttr]))); (repeat ((with_reducible apply And.intro); focus (first | (intro hA; exact ⟨hA, fun hB => (by first | (rw [hA, hB]; rfl) | simp_all)⟩) | omega | decide | (simp; done) | (simp; omega) | (intro hA; (repeat' apply And.intro) <;> first | exact hA | omega)))); (try apply_assumption -exfalso))
      (repeat (first | (refine EV_seq ?_; intro K hK) | refine EV_block ?_ | ((refine EV_region E_ok ?_; intro R hR fr; simp only [push_cast, bne_self_eq_false, simprocAttr]; (try (simp (disch := omega) only [i64_in', sub_elt, sub_elt0, getD_map2]; (try simp only [push_cast, bne_self_eq_false, simprocAttr])))); (repeat ((with_reducible apply And.intro); focus (first | (intro hA; exact ⟨hA, fun hB => (by first | (rw [hA, hB]; rfl) | simp_all)⟩) | omega | decide | (simp; done) | (simp; omega) | (intro hA; (repeat' apply And.intro) <;> first | exact hA | omega)))); apply_assumption -exfalso) | refine EV_skip ?_ | refine EV_scope ?_ | refine EV_label ?_ | refine EV_exit ?_ | refine EV_ret ?_ | (simp only [thenP, blockP, scopeP, if_true, reduceIte, reduceCtorEq, if_false, Nat.reduceEqDiff]; apply_assumption -exfalso)))
      (simp only [push_cast, thenP, blockP, scopeP, retP, evR, evRes, evRes1, Nat.zero_lt_one, Nat.reduceEqDiff, Nat.reduceLT, Nat.reduceAdd, Nat.reduceLeDiff, reduceIte, reduceCtorEq]; simp only [frzKT, frzKLA, frzKA, frzKL, frzKC, frzT, frzLA, frzA, frzL, frzC, fromM, getD', List.getD_cons_zero, List.getD_cons_succ, Nat.zero_le, decide_true, and_true, true_and, and_self, push_cast]; refine SLe.of_eq ?_; (simp))
end Go.Proofs.Ytbahpkjfgoeohaa
