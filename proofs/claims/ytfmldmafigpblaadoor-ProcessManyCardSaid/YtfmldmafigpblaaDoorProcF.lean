-- SG
/-
  The statement about many children: its walk.
-/
import Derived.Test.YtfmldmafigpblaaDoorProcE
namespace Go.Proofs.YtfmldmafigpblaaDoor
open Go.Lift
set_option linter.unusedSimpArgs false
set_option linter.unusedVariables false
set_option maxRecDepth 10000
theorem ec_New3 : EC Tryd.prog 5 [.int .u64 3, .agg (default : GProgram).c, .sl true 0 0 fun _ => []] [] fun r N => N = [] ∧ r = .tup [.agg (pO []).c, .int .i64 0] := by
  have := ec_New0 3 default (Nat.zero_le _) (Nat.zero_le _)
  rwa [new_pO] at this
theorem ec_Fork0 (o : GObject) (id : Int) (ho : smallO o) : EC Tryd.prog 6 [.agg o.c, .int .u64 id, .sl true 0 0 fun _ => []] [] fun r N => N = [] ∧ r = r3k (forkO o id []) :=
  EC.args (.cons (.refl _) (.cons (.refl _) (.cons (SLe.sl (fun h => by simp at h) (.inl rfl) fun k hk => absurd hk (Nat.not_lt_zero k)) .nil))) (ec_Fork o id [] ho (Nat.zero_le _))
theorem f4 : forkO (pO []) 4 [] = (pO [4], cO 4, 0) := by decide +kernel
theorem e3 : endO (pO []) 5 = (default, true, 0) := by decide +kernel
theorem e4 : endO (cO 4) 5 = (zO 4 5, false, 0) := by decide +kernel
theorem r4 : reapO (pO [4]) (zO 4 5) = (pO [], 5, 0) := by decide +kernel
theorem v4 : prB (pO [4]) = true := by decide +kernel
theorem w4 : prB (zO 4 5) = true := by decide +kernel
theorem ec_sane : EC Tryd.prog 4 [] [] fun r N => N = [] ∧ r = .bool true := by
  refine EC.finK ?_
  (refine EC.enterK E_ok call_4 Tryd.func4 rfl (by simp [Tryd.ntmps4]) ?_; simp only [Tryd.ntmps4, Tryd.results4, push_cast, bne_self_eq_false, simprocAttr])
  (refine EC.useK E_ok (ec_New3) ?_; simp only [push_cast, bne_self_eq_false, simprocAttr])
  intro fr
  have hE := ec_End (pO []) 5 (small_pO (Nat.zero_le _))
  rw [e3] at hE
  (refine EC.useK E_ok (hE) ?_; simp only [push_cast, bne_self_eq_false, simprocAttr])
  intro fr1
  have hF := ec_Fork0 (pO []) 4 (small_pO (Nat.zero_le _))
  rw [f4] at hF
  (refine EC.useK E_ok (hF) ?_; simp only [push_cast, bne_self_eq_false, simprocAttr])
  intro fr2
  have hE4 := ec_End (cO 4) 5 (small_cO _)
  rw [e4] at hE4
  (refine EC.useK E_ok (hE4) ?_; simp only [push_cast, bne_self_eq_false, simprocAttr])
  intro fr3
  have hR := ec_Reap (pO [4]) (zO 4 5) (small_pO (by simp)) (small_zO _ _)
  rw [r4] at hR
  (refine EC.useK E_ok (hR) ?_; simp only [push_cast, bne_self_eq_false, simprocAttr])
  intro fr4
  refine ⟨fun _ => ?_, fun h => absurd h (by decide)⟩
  have hV := ec_pr_Valid (pO [4]) (small_pO (by simp))
  rw [v4] at hV
  (refine EC.useK E_ok (hV) ?_; simp only [push_cast, bne_self_eq_false, simprocAttr])
  refine ⟨fun _ => ?_, fun h => absurd h (by decide)⟩
  have hW := ec_pr_Valid (zO 4 5) (small_zO _ _)
  rw [w4] at hW
  (refine EC.useK E_ok (hW) ?_; simp only [push_cast, bne_self_eq_false, simprocAttr])
  exact Lt.bool rfl
/-- What holds when rows are given up at the end of a loop's round. -/
def NXF {σ : Type} (V : σ → Slots) (R : σ → List Own) (Inv : σ → Prop) (μ : σ → Nat) (live : Slots) (s : σ) (t' : Slots) (B' : List Own) : Prop :=
  ∃ s' m, Inv s' ∧ μ s' < μ s ∧ wkF m B' t' (V s' ++ live) ∧ B'.take m = R s'
theorem EV_post {P : Program} {n : Nat} {c : Code} {t : Slots} {B : List Own} {Q Q' : Post} (h : EV P n c t B Q) (hq : ∀ e t B, Q e t B → Q' e t B ∨ ∃ m t', wkF m B t t' ∧ Q' e t' (B.take m)) : EV P n c t B Q' := by
  intro X0 w0 B0 X w a he hs
  refine wp_mono (h X0 w0 B0 X w a he hs) fun e a' w' hg => ?_
  obtain ⟨X1, t1, B1, h1, h2, h3⟩ := hg
  rcases hq e t1 B1 h1 with h4 | ⟨m, t', h4, h5⟩
  · exact ⟨X1, t1, B1, h4, h2, h3⟩
  · have hb : ∀ i, getD' (B1.take m) i = if fromM m i then .gone else getD' B1 i := fun i => by
      rw [getD'_take]
      by_cases hi : i < m
      · have : fromM m i = false := by simp [fromM]; omega
        simp [hi, this]
      · have : fromM m i = true := by simp [fromM]; omega
        simp [hi, this]
    refine ⟨withSel X1 B1 (fromM m), t', B1.take m, h5, ⟨h2.defers, h2.sat.drop_sel hb, h2.den.1, fun i => ?_⟩, h3.trans (Ext.drop_sel hb)⟩
    rcases wkF_spec h4 i with h6 | ⟨h6, h7⟩
    · rw [h6]; exact .any _
    · exact h7 _ _ _ (frzT_sound h2.sat (h2.den.2 i) h6)
theorem EV_loopF {P : Program} {n : Nat} {E : Env} {t : Slots} {B : List Own} {k : Kn} (hE : EnvOK P E) {σ : Type} (live : List Nat) (V : σ → Slots) (R : List Own → σ → List Own) (Inv : σ → Prop) (μ : σ → Nat) (s0 : σ) {c : Code} (h0 : Inv s0) (hw : wkS t (V s0)) (hb : R B s0 = B)
    (hk : ∀ s, wkS (V s ++ keepS t live) (V s ++ keepS t live))
    (round : ∀ s, Inv s → wk P E n c (lpK (NXF V (R B) Inv μ (keepS t live) s) k) (V s ++ keepS t live) (R B s)) : EV P n (.loop c) t B k.f :=
  EV_loopB live V R Inv μ s0 h0 hw hb fun s hs => EV_post (wk_sound hE c _ _ _ (round s hs)) fun e t' B' h => by
    cases e <;> try exact .inl h
    obtain ⟨s', m, h1, h2, h3, h4⟩ := h
    exact .inr ⟨m, _, h3, s', h1, h2, hk s', by rw [h4, List.take_length]⟩
theorem EV_frzRow {α : Type} {P : Program} {n' : Nat} {t : Slots} {B : List Own} {Q : Post} {c : Code} (d i : Nat) {h : RowH} {E e n : Nat} {xs : List (List SV)} {cells : α → List SV} {df : α} {l : List α}
    (hd : lkp t d = .row i h e 0 n) (hB : getD' B i = .row h E e xs) (hx : xs = l.map cells) (hn : n = l.length) (hk : EV P n' c ((d, .sl false e l.length (elt cells df l)) :: t) (B.set i .gone) Q) : EV P n' c t B Q := by
  have hil : i < B.length := getD'_lt hB
  subst hx hn
  refine EV_frzI d i hil ?_ ?_ hk
  · rw [hd]; simp [frzKT, frzKA, frzKC, hB]
  · rw [hd]
    simp only [frzT, frzA, frzC, beq_self_eq_true, hB]
    refine SLe.sl (fun h => h) (.inr rfl) fun k hk => ?_
    simp [List.getD, hk, elt]
theorem leftL_succ (i : Nat) : (leftL (kidsN i)).map GObject.c ++ [(zO (10 + (i : Int)) ((i : Int) * i)).c] = (leftL (kidsN (i + 1))).map GObject.c := by
  have : (10 + (i : Int) - 10) = i := by omega
  simp [leftL, kidsN_succ, this]
theorem leftL_len (i : Nat) : (leftL (kidsN i)).length = i := by simp [leftL, kidsN]
theorem map_sub (l : List GObject) {n lo m : Nat} (h : lo + m ≤ l.length) : List.map (sub (elt GObject.c default l) n lo m) (List.range m) = ((l.drop lo).take m).map GObject.c := by
  apply List.ext_getElem
  · simp; omega
  · intro i h1 h2
    simp at h1
    have : lo + i < l.length := by omega
    simp [sub, elt, List.getD, h1, this]
theorem solids_sub (l : List GObject) {n lo m k : Nat} (h : k < m) : solids (sub (elt GObject.c default l) n lo m k) = true := by
  unfold sub; rw [if_pos h]; simp only [elt, push_cast]
theorem leftL_erase (ks : List Int) (k : Nat) : (leftL ks).take k ++ (leftL ks).drop (k + 1) = leftL (ks.eraseIdx k) := by
  rw [List.eraseIdx_eq_take_drop_succ]
  simp [leftL]
theorem ec_Many (order : List Int) (ho : order.length ≤ 9223372036854775807) (hu : ∀ x ∈ order, 0 ≤ x ∧ x ≤ 255) : EC Tryd.prog 3 [slL 1 (intC .u8) default order] [] fun r N => N = [] ∧ r = .bool true := by
  refine EC.finK ?_
  (refine EC.enterK E_ok call_3 Tryd.func3 rfl (by simp [Tryd.ntmps3]) ?_; simp only [Tryd.ntmps3, Tryd.results3, push_cast, bne_self_eq_false, simprocAttr])
  (refine EC.useK E_ok (ec_sane) ?_; simp only [push_cast, bne_self_eq_false, simprocAttr])
  (refine EC.useK E_ok (ec_New3) ?_; simp only [push_cast, bne_self_eq_false, simprocAttr])
  intro fr
  refine EV_matr 5 42 36 rfl ?_
  intro hl
  refine EV_loopK E_ok [0, 2, 3] (fun s : Nat × RowH => [(6, .int .i64 s.1), (5, .row 1 s.2 36 0 s.1)]) (fun B s => updH (updX B 0 [(pO (kidsN s.1)).c]) 1 s.2 ((leftL (kidsN s.1)).map GObject.c)) (fun s => s.1 ≤ 32) (fun s => 32 - s.1) (0, hl) (Nat.zero_le _) ?_
  rintro ⟨i, hh⟩ hi
  replace hi : i ≤ 32 := hi
  have hw1 : IntKind.i64.wrap (10 + (i : Int)) = 10 + (i : Int) := i64_in' (by omega)
  have hw2 : IntKind.u64.wrap (10 + (i : Int)) = 10 + (i : Int) := IntWalk.u64_in _ (by omega)
  have hw3 : IntKind.i64.wrap ((i : Int) * i) = (i : Int) * i := i64_in' (by
    have h1 : (i : Int) * i ≤ 32 * i := Int.mul_le_mul_of_nonneg_right (by omega) (by omega)
    have h2 : 0 ≤ (i : Int) * i := Int.mul_nonneg (by omega) (by omega)
    omega)
  have hkl : (kidsN i).length = i := by simp [kidsN]
  have hsm : smallO (pO (kidsN i)) := small_pO (by omega)
  simp only [hw1, hw2, push_cast, bne_self_eq_false, simprocAttr]
  refine ⟨fun hc => ?_, fun hc => ?_⟩
  · have hF := ec_Fork0 (pO (kidsN i)) (10 + i) hsm
    rw [fork_pO (kids_N hi) (by omega) (by omega) (kidsN_new i), ← kidsN_succ] at hF
    (refine EC.useK E_ok (hF) ?_; simp only [push_cast, bne_self_eq_false, simprocAttr])
    intro fr1
    simp only [hw3, push_cast, bne_self_eq_false, simprocAttr]
    have hE := ec_End (cO (10 + i)) (i * i) (small_cO _)
    rw [end_cO _ (by omega)] at hE
    (refine EC.useK E_ok (hE) ?_; simp only [push_cast, bne_self_eq_false, simprocAttr])
    intro fr2
    (refine EV_drawn E_ok [] [true, true, false, false, false] [0, 1, 2, 3, 4, 5, 6] Tryd.follows (by kernel_rfl) (by kernel_rfl) (by kernel_rfl) ?_; intro R hR; simp only [push_cast, bne_self_eq_false, simprocAttr]; (repeat intro rh); (try (simp (disch := omega) only [i64_in', sub_elt, sub_elt0, getD_map2]; (try simp only [push_cast, bne_self_eq_false, simprocAttr]))); (repeat ((with_reducible apply And.intro); focus (first | (intro hA; exact ⟨hA, fun hB => (by first | (rw [hA, hB]; rfl) | simp_all)⟩) | omega | decide | (simp; done) | (simp; omega) | (intro hA; (repeat' apply And.intro) <;> first | exact hA | omega)))); (repeat intro rh); (repeat ((with_reducible apply And.intro); focus (first | (intro hA; exact ⟨hA, fun hB => (by first | (rw [hA, hB]; rfl) | simp_all)⟩) | omega | decide | (simp; done) | (simp; omega) | (intro hA; (repeat' apply And.intro) <;> first | exact hA | omega)))); (try apply_assumption -exfalso))
    have hq : List.take i (List.map GObject.c (leftL (kidsN i))) = List.map GObject.c (leftL (kidsN i)) := List.take_of_length_le (by simp [leftL_len])
    rw [hq, leftL_succ, leftL_len]
    refine ⟨⟨Nat.le_refl _, by omega⟩, hR _ _ ?_⟩
    have hw4 : IntKind.i64.wrap ((i : Int) + 1) = ((i + 1 : Nat) : Int) := i64_in' (by omega)
    simp only [hw4, push_cast, bne_self_eq_false, simprocAttr]
    exact NX_mk (i + 1, rh) (by show i + 1 ≤ 32; omega)
  · have hF := ec_Fork0 (pO (kidsN i)) 99 hsm
    have hi32 : i = 32 := by simp at hc; omega
    subst hi32
    rw [fork_full (kids_N (Nat.le_refl _)) hkl] at hF
    (refine EC.useK E_ok (hF) ?_; simp only [push_cast, bne_self_eq_false, simprocAttr])
    intro fr1
    refine EV_frzRow 5 1 (cells := GObject.c) (df := default) (l := leftL (kidsN 32)) rfl rfl rfl rfl ?_
    simp only [List.set, leftL_len]
    refine EV_loopF E_ok [0, 2, 3] (fun s : Nat × List Int => [(16, .int .i64 s.1), (5, .sl false 36 s.2.length (elt GObject.c default (leftL s.2)))]) (fun B s => updX B 0 [(pO s.2).c]) (fun s => Kids s.2 ∧ s.2.length + s.1 = 32) (fun s => s.2.length) (0, kidsN 32) ⟨kids_N (Nat.le_refl _), hkl⟩ ⟨rfl, by simp [lkp, hkl], trivial⟩ rfl (by intro s; simp [wkS, lkp, keepS]) ?_
    rintro ⟨i, ks⟩ ⟨hk, hi⟩
    replace hi : ks.length + i = 32 := hi
    replace hk : Kids ks := hk
    simp only [push_cast, bne_self_eq_false, simprocAttr]
    have hki : ∃ k : Nat, (IntKind.i64.wrap (order.getD i default)).tmod ks.length = (k : Int) ∧ (0 < ks.length → k < ks.length) := by
      have h1 : 0 ≤ order.getD i default ∧ order.getD i default ≤ 255 := by
        by_cases h : i < order.length
        · have e : order.getD i default = order[i] := by simp [List.getD, h]
          rw [e]; exact hu _ (List.getElem_mem h)
        · have e : order.getD i default = 0 := by simp [List.getD, h]
          rw [e]; omega
      rw [i64_in' (by omega)]
      obtain ⟨x, hx⟩ := Int.eq_ofNat_of_zero_le h1.1
      rw [hx, ← Int.ofNat_tmod]
      exact ⟨x % ks.length, rfl, fun h => Nat.mod_lt _ h⟩
    obtain ⟨k1, hk1, hkl1⟩ := hki
    refine ⟨fun hc1 => ?_, fun hc1 => ?_⟩
    · have hpos : 0 < ks.length := by omega
      rw [hk1]
      refine ⟨fun hc2 => ⟨⟨by omega, hc2⟩, by omega, ?_⟩, fun hc2 => ?_⟩
      rotate_left 1
      (obtain ⟨k, hk0⟩ : ∃ k : Nat, (k : Int) = 0 := ⟨0, rfl⟩; have hkl : k < ks.length := (by omega); refine EV_le 17 (s := .int .i64 k) (hk0 ▸ SLe.refl _) ?_)
      rotate_left 1
      obtain ⟨k, rfl, hkl⟩ : ∃ k, k = k1 ∧ k < ks.length := ⟨k1, rfl, hkl1 hpos⟩
      all_goals
        have hz : GObject.c ((leftL ks).getD k default) = (zO ks[k] ((ks[k] - 10) * (ks[k] - 10))).c := by simp [leftL, List.getD, hkl]
        have hsm : smallO (pO ks) := small_pO (by have := hk.le; omega)
        have hp := hk.pos ks[k] (List.getElem_mem hkl)
        have hn1 : IntKind.i64.wrap (IntKind.u64.wrap (((leftL ks).getD k default).ID - 10)) = ks[k] - 10 := by
          have e : ((leftL ks).getD k default).ID = ks[k] := by simp [leftL, List.getD, hkl, zO]
          rw [e, IntWalk.u64_in _ (by omega), i64_in' (by omega)]
        have hn2 : IntKind.i64.wrap ((ks[k] - 10) * (ks[k] - 10)) = (ks[k] - 10) * (ks[k] - 10) := i64_in' (by
          have h1 : (ks[k] - 10) * (ks[k] - 10) ≤ 32 * (ks[k] - 10) := Int.mul_le_mul_of_nonneg_right (by omega) (by omega)
          have h2 : 0 ≤ (ks[k] - 10) * (ks[k] - 10) := Int.mul_nonneg (by omega) (by omega)
          omega)
        have hwk : IntKind.i64.wrap ((k : Int) + 1) = ((k + 1 : Nat) : Int) := i64_in' (by have := hk.le; omega)
        have htn : ((k : Int) + 1).toNat = k + 1 := by omega
        have hll : (leftL ks).length = ks.length := by simp [leftL]
        have hrow : List.map (sub (elt GObject.c default (leftL ks)) ks.length 0 k) (List.range k) ++ List.map (sub (elt GObject.c default (leftL ks)) ks.length (k + 1) (ks.length - (k + 1))) (List.range (ks.length - (k + 1))) = (leftL (ks.eraseIdx k)).map GObject.c := by
          rw [map_sub _ (by omega), map_sub _ (by omega), ← List.map_append, ← leftL_erase, List.drop_zero, List.take_of_length_le (by simp [hll] : ((leftL ks).drop (k + 1)).length ≤ _)]
        have hwi : IntKind.i64.wrap ((i : Int) + 1) = ((i + 1 : Nat) : Int) := i64_in' (by omega)
        have hel : (ks.eraseIdx k).length = ks.length - 1 := List.length_eraseIdx_of_lt hkl
        have hlE : (ks.eraseIdx k).length = (leftL (ks.eraseIdx k)).length := by simp [leftL]
        have hlE' := hlE.symm
        have hV := ec_pr_Valid (pO (ks.eraseIdx k)) (small_pO (by have := (hk.erase k).le; omega))
        rw [(hk.erase k).valid] at hV
        have hP := ec_Reap (pO ks) (zO ks[k] ((ks[k] - 10) * (ks[k] - 10))) hsm (small_zO _ _)
        rw [reap_pO hk hkl] at hP
        (refine EV_draw (late := []) (ws := [false, false, false, false]) Tryd.follows ?_; intro R hR; refine ED_pre (m := 9) E_ok (by kernel_rfl) [0, 1, 2, 3, 4] _ _ _ (by kernel_rfl) ?_; simp only [push_cast, bne_self_eq_false, simprocAttr]; (try (simp (disch := omega) only [i64_in', sub_elt, sub_elt0, getD_map2]; (try simp only [push_cast, bne_self_eq_false, simprocAttr]))); (repeat ((with_reducible apply And.intro); focus (first | (intro hA; exact ⟨hA, fun hB => (by first | (rw [hA, hB]; rfl) | simp_all)⟩) | omega | decide | (simp; done) | (simp; omega) | (intro hA; (repeat' apply And.intro) <;> first | exact hA | omega)))))
        (refine ED_two (i := 5) (j := 10) (by kernel_rfl) (EDi_step E_ok ?_) (EDi_step E_ok ?_) <;> simp only [push_cast, bne_self_eq_false, simprocAttr])
        rotate_left 1
        ((intro rh; (repeat ((with_reducible apply And.intro); focus (first | (intro hA; exact ⟨hA, fun hB => (by first | (rw [hA, hB]; rfl) | simp_all)⟩) | omega | decide | (simp; done) | (simp; omega) | (intro hA; (repeat' apply And.intro) <;> first | exact hA | omega)))); refine ED_run E_ok (by kernel_rfl) false [5, 6, 7, 8, 9, 11, 12, 13] _ _ _ (by kernel_rfl) (by kernel_rfl) ?_; simp only [push_cast, bne_self_eq_false, simprocAttr]; (repeat ((with_reducible apply And.intro); focus (first | (intro hA; exact ⟨hA, fun hB => (by first | (rw [hA, hB]; rfl) | simp_all)⟩) | omega | decide | (simp; done) | (simp; omega) | (intro hA; (repeat' apply And.intro) <;> first | exact hA | omega))))))
        rotate_left 1
        all_goals simp only [hz]
        ((refine EC.use (hP) ?_; refine ED_run E_ok (by kernel_rfl) false [6, 7, 8, 9, 10, 11, 12, 13] _ _ _ (by kernel_rfl) (by kernel_rfl) ?_; simp only [push_cast, bne_self_eq_false, simprocAttr]; (repeat intro rh); (try (simp (disch := omega) only [i64_in', sub_elt, sub_elt0, getD_map2]; (try simp only [push_cast, bne_self_eq_false, simprocAttr]))); (repeat ((with_reducible apply And.intro); focus (first | (intro hA; exact ⟨hA, fun hB => (by first | (rw [hA, hB]; rfl) | simp_all)⟩) | omega | decide | (simp; done) | (simp; omega) | (intro hA; (repeat' apply And.intro) <;> first | exact hA | omega)))); (try apply_assumption -exfalso)))
        rotate_left 1
        ((refine EC.use (hP) ?_; refine ED_run E_ok (by kernel_rfl) false [6, 7, 8, 9, 11, 12, 13] _ _ _ (by kernel_rfl) (by kernel_rfl) ?_; simp only [push_cast, bne_self_eq_false, simprocAttr]; (repeat intro rh); (try (simp (disch := omega) only [i64_in', sub_elt, sub_elt0, getD_map2]; (try simp only [push_cast, bne_self_eq_false, simprocAttr]))); (repeat ((with_reducible apply And.intro); focus (first | (intro hA; exact ⟨hA, fun hB => (by first | (rw [hA, hB]; rfl) | simp_all)⟩) | omega | decide | (simp; done) | (simp; omega) | (intro hA; (repeat' apply And.intro) <;> first | exact hA | omega)))); (try apply_assumption -exfalso)))
        rotate_left 1
        all_goals
          simp only [push_cast, bne_self_eq_false, simprocAttr]
          refine ⟨by omega, ?_⟩
          simp only [hn1, hn2, bne_self_eq_false, Bool.not_false, forall_const, Bool.true_eq_false, false_imp_iff, and_true]
          (refine EC.useK E_ok (hV) ?_; simp only [push_cast, bne_self_eq_false, simprocAttr])
          (refine EV_drawn E_ok [] [true, false, false, false, false] [0, 1, 2, 3, 5, 6, 7, 8, 4, 9, 10, 11] Tryd.follows (by kernel_rfl) (by kernel_rfl) (by kernel_rfl) ?_; intro R hR; simp only [push_cast, bne_self_eq_false, simprocAttr])
          simp only [hwk]
          simp only [push_cast, bne_self_eq_false, simprocAttr]
          simp only [htn, List.length_range]
          refine ⟨by omega, by omega, fun h2 => ⟨⟨fun j hj => solids_sub _ hj, by omega⟩, fun h3 => ⟨⟨fun j hj => solids_sub _ hj, by omega⟩, hR _ _ ?_⟩⟩⟩
          rw [hrow]
          simp only [hwi, push_cast, bne_self_eq_false, simprocAttr]
          refine ⟨(i + 1, ks.eraseIdx k), 4, ⟨hk.erase k, by show (ks.eraseIdx k).length + (i + 1) = 32; rw [hel]; omega⟩, by show (ks.eraseIdx k).length < ks.length; rw [hel]; omega, ⟨⟨trivial, SLe.refl _⟩, ⟨?_, ?_⟩, ⟨trivial, SLe.refl _⟩, ⟨trivial, SLe.refl _⟩, ⟨?_, ?_⟩, trivial⟩, rfl⟩
          · exact ⟨rfl, rfl, by simp [hll, hlE', hel]; omega⟩
          · show SLe _ (.sl false 36 (ks.eraseIdx k).length _)
            rw [hlE]
            exact sle_row rfl (by rw [← hlE, hel]; omega)
          · exact trivial
          · exact SLe.refl _
    · have : ks = [] := by simp at hc1; exact hc1
      subst this
      exact Lt.bool rfl
end Go.Proofs.YtfmldmafigpblaaDoor
