-- SG
/- Copies of objects. -/
import Derived.Test.YtfmldmafigpblaaDoorProc
namespace Go.Proofs.YtfmldmafigpblaaDoor
open Go.Lift
set_option linter.unusedSimpArgs false
set_option linter.unusedVariables false
set_option maxRecDepth 10000
theorem ec_clone_i64 (l : List Int) (hl : l.length ≤ 1000000) : EC Tryd.prog 43 [slL 1 (intC .i64) default l] [] fun r N => N = [] ∧ r = slL 1 (intC .i64) default l := by
  refine EC.finK ?_
  (refine EC.enterK E_ok call_43 Tryd.func43 rfl (by simp [Tryd.ntmps43]) ?_; simp only [Tryd.ntmps43, Tryd.results43, push_cast, bne_self_eq_false, simprocAttr])
  intro fr
  refine ⟨fun h => ?_, fun h _ => ⟨by omega, Lt.row rfl rfl rfl⟩⟩
  rw [nil_of h]
  exact ⟨trivial, sle_nilL⟩
def nmS (n : Nat) (h : RowH) (i : Nat) : SV := .row i h 3 0 n
attribute [push_cast] nmS
theorem ec_clone_Name (l : List GName) (hl : l.length ≤ 1000000) : EC Tryd.prog 46 [slL 3 GName.c default l] [] fun r N => ∃ h : RowH, r = nmS l.length h 0 ∧ N = [.row h 105 3 (l.map GName.c)] := by
  refine EC.matr 105 3 (EC.ret ?_)
  (refine EC.enterK E_ok call_46 Tryd.func46 rfl (by simp [Tryd.ntmps46]) ?_; simp only [Tryd.ntmps46, Tryd.results46, push_cast, bne_self_eq_false, simprocAttr])
  refine fun fr => ⟨fun h => ?_, fun h fr1 => ⟨by omega, _, SLe.refl _, .inl ⟨_, rfl, rfl⟩⟩⟩
  rw [nil_of h]
  exact ⟨_, SLe.refl _, .inr ⟨_, rfl, fun hh => ⟨hh, rfl, rfl⟩⟩⟩
theorem ec_clone_Object (o : GObject) (ho : smallO o) : EC Tryd.prog 32 [.agg o.c] [] fun r N => N = [] ∧ r = .agg o.c := by
  obtain ⟨hp, h1, h2, h3, h4, h5, h6, h7⟩ := ho
  refine EC.finK ?_
  (refine EC.enterK E_ok call_32 Tryd.func32 rfl (by simp [Tryd.ntmps32]) ?_; simp only [Tryd.ntmps32, Tryd.results32, push_cast, bne_self_eq_false, simprocAttr])
  intro fr
  (refine EC.useK E_ok (ec_clone_Process _ hp) ?_; simp only [push_cast, bne_self_eq_false, simprocAttr])
  (refine EV_drawn E_ok [10, 12, 14] [false, false] [0, 1, 3, 4, 6, 7, 2, 9, 5, 8, 10, 11, 12, 13, 14] Tryd.follows (by kernel_rfl) (by kernel_rfl) (by kernel_rfl) ?_; intro R hR; simp only [push_cast, bne_self_eq_false, simprocAttr]; (repeat intro rh); (try (simp (disch := omega) only [i64_in', sub_elt, sub_elt0, getD_map2]; (try simp only [push_cast, bne_self_eq_false, simprocAttr]))); (repeat ((with_reducible apply And.intro); focus (first | (intro hA; exact ⟨hA, fun hB => (by first | (rw [hA, hB]; rfl) | simp_all)⟩) | omega | decide | (simp; done) | (simp; omega) | (intro hA; (repeat' apply And.intro) <;> first | exact hA | omega)))); (repeat intro rh); (repeat ((with_reducible apply And.intro); focus (first | (intro hA; exact ⟨hA, fun hB => (by first | (rw [hA, hB]; rfl) | simp_all)⟩) | omega | decide | (simp; done) | (simp; omega) | (intro hA; (repeat' apply And.intro) <;> first | exact hA | omega)))); (try apply_assumption -exfalso))
  (refine EC.use (ec_clone_i64 _ h1) ?_; (try simp only [hg]); refine ED_run E_ok (by kernel_rfl) false [9, 5, 8, 10, 11, 12, 13, 14] _ _ _ (by kernel_rfl) (by kernel_rfl) ?_; simp only [push_cast, bne_self_eq_false, simprocAttr]; (repeat intro rh); (try (simp (disch := omega) only [i64_in', sub_elt, sub_elt0, getD_map2]; (try simp only [push_cast, bne_self_eq_false, simprocAttr]))); (repeat ((with_reducible apply And.intro); focus (first | (intro hA; exact ⟨hA, fun hB => (by first | (rw [hA, hB]; rfl) | simp_all)⟩) | omega | decide | (simp; done) | (simp; omega) | (intro hA; (repeat' apply And.intro) <;> first | exact hA | omega)))); (try apply_assumption -exfalso))
  (refine EC.use (ec_clone_u8 _ h2) ?_; (try simp only [hg]); refine ED_run E_ok (by kernel_rfl) false [8, 10, 11, 12, 13, 14] _ _ _ (by kernel_rfl) (by kernel_rfl) ?_; simp only [push_cast, bne_self_eq_false, simprocAttr]; (repeat intro rh); (try (simp (disch := omega) only [i64_in', sub_elt, sub_elt0, getD_map2]; (try simp only [push_cast, bne_self_eq_false, simprocAttr]))); (repeat ((with_reducible apply And.intro); focus (first | (intro hA; exact ⟨hA, fun hB => (by first | (rw [hA, hB]; rfl) | simp_all)⟩) | omega | decide | (simp; done) | (simp; omega) | (intro hA; (repeat' apply And.intro) <;> first | exact hA | omega)))); (try apply_assumption -exfalso))
  (refine EC.use (ec_clone_u64 _ h3) ?_; (try simp only [hg]); refine ED_run E_ok (by kernel_rfl) false [10, 11, 12, 13, 14] _ _ _ (by kernel_rfl) (by kernel_rfl) ?_; simp only [push_cast, bne_self_eq_false, simprocAttr]; (repeat intro rh); (try (simp (disch := omega) only [i64_in', sub_elt, sub_elt0, getD_map2]; (try simp only [push_cast, bne_self_eq_false, simprocAttr]))); (repeat ((with_reducible apply And.intro); focus (first | (intro hA; exact ⟨hA, fun hB => (by first | (rw [hA, hB]; rfl) | simp_all)⟩) | omega | decide | (simp; done) | (simp; omega) | (intro hA; (repeat' apply And.intro) <;> first | exact hA | omega)))); (try apply_assumption -exfalso))
  simp only [push_cast, bne_self_eq_false, simprocAttr]
  refine EV_loopK E_ok [24, 1, 2] (fun i : Nat => [(25, .int .i64 i)]) (fun B _ => B) (fun i => i ≤ 2) (fun i => 2 - i) 0 (Nat.zero_le _) ?_
  intro i hi
  rcases (show i = 0 ∨ i = 1 ∨ i = 2 by omega) with rfl | rfl | rfl
  · simp only [push_cast, bne_self_eq_false, simprocAttr]
    (refine EC.useK E_ok (ec_clone_u8 _ h4) ?_; simp only [push_cast, bne_self_eq_false, simprocAttr])
    exact NX_mk 1 (by decide)
  · simp only [push_cast, bne_self_eq_false, simprocAttr]
    (refine EC.useK E_ok (ec_clone_u8 _ h5) ?_; simp only [push_cast, bne_self_eq_false, simprocAttr])
    exact NX_mk 2 (by decide)
  simp only [push_cast, bne_self_eq_false, simprocAttr]
  refine EC.useM (ec_clone_Name _ h6) (fun _ _ _ => SLe.row) ?_
  intro rh
  (repeat (refine EOK_run (m := 0) E_ok ?_; simp only [push_cast, bne_self_eq_false, simprocAttr]))
  clear hR R
  refine EV_loopK E_ok [1, 2, 40, 41] (fun i : Nat => [(42, .int .i64 i)]) (fun B _ => B) (fun i => i ≤ o.Names.length) (fun i => o.Names.length - i) 0 (Nat.zero_le _) ?_
  intro i hi
  rcases Nat.lt_or_eq_of_le hi with hlt | rfl
  · have hg : (List.map GName.c o.Names).getD i [] = GName.c (o.Names.getD i default) := getD_map2 hlt
    have hs : (List.map GName.c o.Names).set i (GName.c (o.Names.getD i default)) = List.map GName.c o.Names := by
      rw [map_set2, show o.Names.getD i default = o.Names[i] by simp [List.getD, hlt], List.set_getElem_self]
    have hlt' : (i : Int) < o.Names.length := by omega
    simp only [hg, hlt', push_cast, bne_self_eq_false, simprocAttr]
    intro fr2
    (repeat refine sd ?_)
    (refine EV_drawn E_ok [] [false, false, true, false] [0, 1, 2, 3, 4, 5, 6, 7, 8] Tryd.follows (by kernel_rfl) (by kernel_rfl) (by kernel_rfl) ?_; intro R hR; simp only [push_cast, bne_self_eq_false, simprocAttr]; (repeat intro rh); (try (simp (disch := omega) only [i64_in', sub_elt, sub_elt0, getD_map2]; (try simp only [push_cast, bne_self_eq_false, simprocAttr]))); (repeat ((with_reducible apply And.intro); focus (first | (intro hA; exact ⟨hA, fun hB => (by first | (rw [hA, hB]; rfl) | simp_all)⟩) | omega | decide | (simp; done) | (simp; omega) | (intro hA; (repeat' apply And.intro) <;> first | exact hA | omega)))); (repeat intro rh); (repeat ((with_reducible apply And.intro); focus (first | (intro hA; exact ⟨hA, fun hB => (by first | (rw [hA, hB]; rfl) | simp_all)⟩) | omega | decide | (simp; done) | (simp; omega) | (intro hA; (repeat' apply And.intro) <;> first | exact hA | omega)))); (try apply_assumption -exfalso))
    (refine EC.use (ec_clone_u64 _ (h7 _ (getD_mem hlt)).1) ?_; (try simp only [hg]); refine ED_run E_ok (by kernel_rfl) false [6, 7, 8] _ _ _ (by kernel_rfl) (by kernel_rfl) ?_; simp only [push_cast, bne_self_eq_false, simprocAttr]; (repeat intro rh); (try (simp (disch := omega) only [i64_in', sub_elt, sub_elt0, getD_map2]; (try simp only [push_cast, bne_self_eq_false, simprocAttr]))); (repeat ((with_reducible apply And.intro); focus (first | (intro hA; exact ⟨hA, fun hB => (by first | (rw [hA, hB]; rfl) | simp_all)⟩) | omega | decide | (simp; done) | (simp; omega) | (intro hA; (repeat' apply And.intro) <;> first | exact hA | omega)))); (try apply_assumption -exfalso))
    simp only [hs, wrap1 hlt h6, push_cast, bne_self_eq_false, simprocAttr]
    exact NX_mk (i + 1) hlt
  · simp only [push_cast, bne_self_eq_false, simprocAttr]
    (repeat refine sd ?_)
    exact fun _ => Lt.agg (FzL.put (FzL.O o) 35 (FzC.row rfl rfl rfl) rfl)
theorem ec_copied (o : GObject) (ho : smallO o) : EC Tryd.prog 16 [.agg o.c] [] fun r N => N = [] ∧ r = .agg o.c := by
  refine EC.finK ?_
  (refine EC.enterK E_ok call_16 Tryd.func16 rfl (by simp [Tryd.ntmps16]) ?_; simp only [Tryd.ntmps16, Tryd.results16, push_cast, bne_self_eq_false, simprocAttr])
  intro fr
  (refine EC.useK E_ok (ec_clone_Object o ho) ?_; simp only [push_cast, bne_self_eq_false, simprocAttr])
  exact Lt.agg (FzL.O o)
/-- The child of a process. -/
def childO (o : GObject) (id : Int) : GObject := { o with ID := id, Process := { o.Process with Parent := o.ID, Children := [], Pending := 0, Alarm := 0 } }
theorem ec_child (o : GObject) (id : Int) (ho : smallO o) : EC Tryd.prog 15 [.agg o.c, .int .u64 id] [] fun r N => N = [] ∧ r = .agg (childO o id).c := by
  refine EC.finK ?_
  (refine EC.enterK E_ok call_15 Tryd.func15 rfl (by simp [Tryd.ntmps15]) ?_; simp only [Tryd.ntmps15, Tryd.results15, push_cast, bne_self_eq_false, simprocAttr])
  intro fr
  (refine EC.useK E_ok (ec_copied o ho) ?_; simp only [push_cast, bne_self_eq_false, simprocAttr])
  intro fr1
  (refine EV_drawn E_ok [] [false, false, true] [0, 1, 2, 3, 4, 5, 6, 7, 8] Tryd.follows (by kernel_rfl) (by kernel_rfl) (by kernel_rfl) ?_; intro R hR; simp only [push_cast, bne_self_eq_false, simprocAttr]; (repeat intro rh); (try (simp (disch := omega) only [i64_in', sub_elt, sub_elt0, getD_map2]; (try simp only [push_cast, bne_self_eq_false, simprocAttr]))); (repeat ((with_reducible apply And.intro); focus (first | (intro hA; exact ⟨hA, fun hB => (by first | (rw [hA, hB]; rfl) | simp_all)⟩) | omega | decide | (simp; done) | (simp; omega) | (intro hA; (repeat' apply And.intro) <;> first | exact hA | omega)))); (repeat intro rh); (repeat ((with_reducible apply And.intro); focus (first | (intro hA; exact ⟨hA, fun hB => (by first | (rw [hA, hB]; rfl) | simp_all)⟩) | omega | decide | (simp; done) | (simp; omega) | (intro hA; (repeat' apply And.intro) <;> first | exact hA | omega)))); (try apply_assumption -exfalso))
  simp only [push_cast, bne_self_eq_false, simprocAttr]
  (repeat refine sd ?_)
  exact Lt.agg (FzL.put (FzL.put (FzL.put (FzL.O _) 5 FzC.nil (GObject.p5 _ [])) 20 FzC.int rfl) 21 FzC.int rfl)
end Go.Proofs.YtfmldmafigpblaaDoor
