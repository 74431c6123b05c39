-- SG
/- Copies of processes whose children may be written. -/
import Derived.Test.YtfmldmafigpblaaDoorProcC
namespace Go.Proofs.YtfmldmafigpblaaDoor
open Go.Lift
set_option linter.unusedSimpArgs false
set_option linter.unusedVariables false
set_option maxRecDepth 10000
def coS (o : GObject) (h : RowH) (i : Nat) : SV := .agg (putL o.c 5 [.row i h 1 0 o.Process.Children.length])
theorem coS_le (o : GObject) (h : RowH) (i j : Nat) : SLe (coS o h i) (coS o h j) := SLe.agg (LLe.put (LLe.refl _) 5 SLe.row rfl)
set_option maxHeartbeats 1000000 in
theorem ec_clone_ObjectM (o : GObject) (ho : smallO o) (hn : o.Names = []) : EC Tryd.prog 32 [.agg o.c] [] fun r N => ∃ h, r = coS o h 0 ∧ N = [.row h 24 1 (o.Process.Children.map (intC .u64))] := by
  obtain ⟨hp, h1, h2, h3, h4, h5, h6, h7⟩ := ho
  refine EC_pick 2 ?_
  (refine EC.enterK E_ok call_32 Tryd.func32 rfl (by simp [Tryd.ntmps32]) ?_; simp only [Tryd.ntmps32, Tryd.results32, push_cast, bne_self_eq_false, simprocAttr])
  intro fr
  refine EC.useM (ec_clone_ProcessM _ hp) (fun h i j => chS_le _ h i j) ?_
  intro rh
  have e1 : putL o.c 3 (putL o.Process.c 2 [SV.row 2 rh 1 0 o.Process.Children.length]) = putL o.c 5 [SV.row 2 rh 1 0 o.Process.Children.length] := by kernel_rfl
  simp only [chS, push_cast, bne_self_eq_false, simprocAttr]
  (repeat (refine EOK_run (m := 0) E_ok ?_; simp only [push_cast, bne_self_eq_false, simprocAttr]))
  rw [e1]
  clear e1
  (refine EV_drawn E_ok [10, 12, 14] [false, false, false] [0, 1, 3, 4, 6, 7, 2, 9, 5, 8, 10, 11, 12, 13, 14] Tryd.follows (by kernel_rfl) (by kernel_rfl) (by kernel_rfl) ?_; intro R hR; simp only [push_cast, bne_self_eq_false, simprocAttr]; (repeat intro rh); (try (simp (disch := omega) only [i64_in', sub_elt, sub_elt0, getD_map2]; (try simp only [push_cast, bne_self_eq_false, simprocAttr]))); (repeat ((with_reducible apply And.intro); focus (first | (intro hA; exact ⟨hA, fun hB => (by first | (rw [hA, hB]; rfl) | simp_all)⟩) | omega | decide | (simp; done) | (simp; omega) | (intro hA; (repeat' apply And.intro) <;> first | exact hA | omega)))); (repeat intro rh); (repeat ((with_reducible apply And.intro); focus (first | (intro hA; exact ⟨hA, fun hB => (by first | (rw [hA, hB]; rfl) | simp_all)⟩) | omega | decide | (simp; done) | (simp; omega) | (intro hA; (repeat' apply And.intro) <;> first | exact hA | omega)))); (try apply_assumption -exfalso))
  (refine EC.use (ec_clone_i64 _ h1) ?_; (try simp only [hg]); refine ED_run E_ok (by kernel_rfl) false [9, 5, 8, 10, 11, 12, 13, 14] _ _ _ (by kernel_rfl) (by kernel_rfl) ?_; simp only [push_cast, bne_self_eq_false, simprocAttr]; (repeat intro rh); (try (simp (disch := omega) only [i64_in', sub_elt, sub_elt0, getD_map2]; (try simp only [push_cast, bne_self_eq_false, simprocAttr]))); (repeat ((with_reducible apply And.intro); focus (first | (intro hA; exact ⟨hA, fun hB => (by first | (rw [hA, hB]; rfl) | simp_all)⟩) | omega | decide | (simp; done) | (simp; omega) | (intro hA; (repeat' apply And.intro) <;> first | exact hA | omega)))); (try apply_assumption -exfalso))
  (refine EC.use (ec_clone_u8 _ h2) ?_; (try simp only [hg]); refine ED_run E_ok (by kernel_rfl) false [8, 10, 11, 12, 13, 14] _ _ _ (by kernel_rfl) (by kernel_rfl) ?_; simp only [push_cast, bne_self_eq_false, simprocAttr]; (repeat intro rh); (try (simp (disch := omega) only [i64_in', sub_elt, sub_elt0, getD_map2]; (try simp only [push_cast, bne_self_eq_false, simprocAttr]))); (repeat ((with_reducible apply And.intro); focus (first | (intro hA; exact ⟨hA, fun hB => (by first | (rw [hA, hB]; rfl) | simp_all)⟩) | omega | decide | (simp; done) | (simp; omega) | (intro hA; (repeat' apply And.intro) <;> first | exact hA | omega)))); (try apply_assumption -exfalso))
  (refine EC.use (ec_clone_u64 _ h3) ?_; (try simp only [hg]); refine ED_run E_ok (by kernel_rfl) false [10, 11, 12, 13, 14] _ _ _ (by kernel_rfl) (by kernel_rfl) ?_; simp only [push_cast, bne_self_eq_false, simprocAttr]; (repeat intro rh); (try (simp (disch := omega) only [i64_in', sub_elt, sub_elt0, getD_map2]; (try simp only [push_cast, bne_self_eq_false, simprocAttr]))); (repeat ((with_reducible apply And.intro); focus (first | (intro hA; exact ⟨hA, fun hB => (by first | (rw [hA, hB]; rfl) | simp_all)⟩) | omega | decide | (simp; done) | (simp; omega) | (intro hA; (repeat' apply And.intro) <;> first | exact hA | omega)))); (try apply_assumption -exfalso))
  clear hR R
  have d1 : putL (putL (putL (putL o.c 5 [SV.row 2 rh 1 0 o.Process.Children.length]) 23 [SV.sl false 1 o.Words.length (elt (intC .i64) default o.Words)]) 24 [SV.sl false 1 o.Data.length (elt (intC .u8) default o.Data)]) 29 [SV.sl false 1 o.Backlog.length (elt (intC .u64) default o.Backlog)] = putL o.c 5 [SV.row 2 rh 1 0 o.Process.Children.length] := by kernel_rfl
  have d2 : List.take 2 (List.drop 30 (putL o.c 5 [SV.row 2 rh 1 0 o.Process.Children.length])) = A2Lu8.c o.Queues := by kernel_rfl
  have d3 : putL (putL o.c 5 [SV.row 2 rh 1 0 o.Process.Children.length]) 30 [SV.sl false 1 o.Queues.x0.length (elt (intC .u8) default o.Queues.x0)] = putL o.c 5 [SV.row 2 rh 1 0 o.Process.Children.length] := by kernel_rfl
  have d4 : putL (putL o.c 5 [SV.row 2 rh 1 0 o.Process.Children.length]) 31 [SV.sl false 1 o.Queues.x1.length (elt (intC .u8) default o.Queues.x1)] = putL o.c 5 [SV.row 2 rh 1 0 o.Process.Children.length] := by kernel_rfl
  have d5 : putL (putL o.c 5 [SV.row 2 rh 1 0 o.Process.Children.length]) 35 [SV.sl false 3 o.Names.length (elt GName.c default o.Names)] = putL o.c 5 [SV.row 2 rh 1 0 o.Process.Children.length] := by kernel_rfl
  rw [hn] at d5
  simp only [List.length_nil] at d5
  have d6 : solids (putL o.c 5 [SV.row 2 rh 1 0 o.Process.Children.length]) = true := by kernel_rfl
  simp only [d1, d2, push_cast, bne_self_eq_false, simprocAttr]
  refine EV_loopK E_ok [24, 1, 2] (fun i : Nat => [(25, .int .i64 i)]) (fun B _ => B) (fun i => i ≤ 2) (fun i => 2 - i) 0 (Nat.zero_le _) ?_
  intro i hi
  rcases (show i = 0 ∨ i = 1 ∨ i = 2 by omega) with rfl | rfl | rfl
  · simp only [push_cast, bne_self_eq_false, simprocAttr]
    (refine EC.useK E_ok (ec_clone_u8 _ h4) ?_; simp only [d3, push_cast, bne_self_eq_false, simprocAttr])
    exact NX_mk 1 (by decide)
  · simp only [push_cast, bne_self_eq_false, simprocAttr]
    (refine EC.useK E_ok (ec_clone_u8 _ h5) ?_; simp only [d4, push_cast, bne_self_eq_false, simprocAttr])
    exact NX_mk 2 (by decide)
  simp only [push_cast, bne_self_eq_false, simprocAttr]
  refine EC.useK E_ok (ec_clone_NameF _ h6) ?_
  simp only [d5, d6, hn, push_cast, bne_self_eq_false, simprocAttr]
  refine EV_loopK E_ok [1, 2, 40, 41] (fun i : Nat => [(42, .int .i64 i)]) (fun B _ => B) (fun i => i = 0) (fun i => 0) 0 rfl ?_
  rintro i rfl
  simp only [d6, push_cast, bne_self_eq_false, simprocAttr]
  exact ⟨_, coS_le o rh 2 0, rh, rfl, rfl⟩
theorem ec_copiedM (o : GObject) (ho : smallO o) (hn : o.Names = []) : EC Tryd.prog 16 [.agg o.c] [] fun r N => ∃ h, r = coS o h 0 ∧ N = [.row h 24 1 (o.Process.Children.map (intC .u64))] := by
  refine EC_pick 2 ?_
  (refine EC.enterK E_ok call_16 Tryd.func16 rfl (by simp [Tryd.ntmps16]) ?_; simp only [Tryd.ntmps16, Tryd.results16, push_cast, bne_self_eq_false, simprocAttr])
  intro fr
  refine EC.useM (ec_clone_ObjectM _ ho hn) (fun h i j => coS_le _ h i j) ?_
  intro rh
  simp only [coS, push_cast, bne_self_eq_false, simprocAttr]
  (repeat (refine EOK_run (m := 0) E_ok ?_; simp only [push_cast, bne_self_eq_false, simprocAttr]))
  exact ⟨_, coS_le o rh 2 0, rh, rfl, rfl⟩
theorem ec_fail (e : Int) : EC Tryd.prog 12 [.int .i64 e] [] fun r N => N = [] ∧ r = .tup [.agg (GObject.c default), .agg (GObject.c default), .int .i64 e] := by
  refine EC.finK ?_
  (refine EC.enterK E_ok call_12 Tryd.func12 rfl (by simp [Tryd.ntmps12]) ?_; simp only [Tryd.ntmps12, Tryd.results12, push_cast, bne_self_eq_false, simprocAttr])
  (repeat' (first | (refine EOK_run (m := 0) E_ok ?_; simp only [push_cast, bne_self_eq_false, simprocAttr]) | apply Lt.bool | apply Lt.int | apply Lt.t2 | apply Lt.t3 | apply Lt.t4 | apply Lt.aggO | apply FzA.aggO | apply FzA.boolE | apply FzA.intE | apply Lt.str | (with_reducible intro _) | with_reducible apply And.intro | exact trivial)) <;> (first | rfl | exact ([] : List Own) | omega | contradiction | (simp [*]; done) | (simp_all []; done) | skip)
/-- What is left of a process that ends. -/
def endO (o : GObject) (status : Int) : GObject × Bool × Int :=
  if (!prB o) = true then (default, false, 1) else if (o.Process.State == 3) = true then (default, false, 8) else if (o.Process.Parent == 0) = true then (default, true, 0)
  else ({ (default : GObject) with ID := o.ID, Kind := 1, Process := { (default : GProcess) with State := 3, Parent := o.Process.Parent, Status := status } }, false, 0)
def r3e (x : GObject × Bool × Int) : SV := .tup [.agg x.1.c, .bool x.2.1, .int .i64 x.2.2]
attribute [push_cast] r3e
theorem ec_End (o : GObject) (st : Int) (ho : smallO o) : EC Tryd.prog 7 [.agg o.c, .int .i64 st] [] fun r N => N = [] ∧ r = r3e (endO o st) := by
  refine EC.finK ?_
  (refine EC.enterK E_ok call_7 Tryd.func7 rfl (by simp [Tryd.ntmps7]) ?_; simp only [Tryd.ntmps7, Tryd.results7, push_cast, bne_self_eq_false, simprocAttr])
  (repeat' (first | (refine EOK_run (m := 0) E_ok ?_; simp only [push_cast, bne_self_eq_false, simprocAttr]) | (refine EC.useK E_ok (ec_pr_Valid o ho) ?_; simp only [push_cast, bne_self_eq_false, simprocAttr]) | apply Lt.bool | apply Lt.int | apply Lt.t2 | apply Lt.t3 | apply Lt.t4 | apply Lt.aggO | apply FzA.aggO | apply FzA.boolE | apply FzA.intE | apply Lt.str | (with_reducible intro _) | with_reducible apply And.intro | exact trivial)) <;> (first | rfl | exact ([] : List Own) | omega | contradiction | (simp [endO, *]; done) | (simp_all [endO]; done) | skip)
theorem prB_only {o : GObject} (h : prB o = true) : o.Kind = 1 ∧ o.ID ≠ 0 ∧ onlyB o 2 = true ∧ famB o = true := by
  unfold prB at h
  split at h
  · cases h
  · rename_i g
    simpa [not_or, and_assoc] using g
theorem okB_no {m : Int} {b : Bool} (h : okB 2 m b = true) (hm : (bitI .andNot .i64 m 2 == 0) = false) : b = false := by
  cases b <;> simp_all [okB]
theorem prB_names {o : GObject} (h : prB o = true) : o.Names = [] := by
  have h1 := (prB_only h).2.2.1
  simp only [onlyB, Bool.and_eq_true] at h1
  have := okB_no h1.2 (by kernel_rfl)
  simpa using this
/-- A process and its child. -/
def forkO (o : GObject) (id : Int) (pages : List Int) : GObject × GObject × Int :=
  if (!prB o) = true then (default, default, 1) else if (o.Process.State != 1) = true then (default, default, 8) else if ((o.Process.Children.length : Int) == 32) = true then (default, default, 3)
  else if (id == 0 || id == o.ID || decide (id ∈ o.Process.Children)) = true then (default, default, 1)
  else if ((spRepl o.Process.Pages pages).2 != 0) = true then (default, default, (spRepl o.Process.Pages pages).2)
  else if (!prB { childO o id with Process := { (childO o id).Process with Pages := (spRepl o.Process.Pages pages).1 } }) = true then (default, default, 1)
  else ({ o with Process := { o.Process with Children := o.Process.Children ++ [id] } }, { childO o id with Process := { (childO o id).Process with Pages := (spRepl o.Process.Pages pages).1 } }, 0)
def r3k (x : GObject × GObject × Int) : SV := .tup [.agg x.1.c, .agg x.2.1.c, .int .i64 x.2.2]
attribute [push_cast] r3k r2t
theorem ec_Fork (o : GObject) (id : Int) (pages : List Int) (ho : smallO o) (hp : pages.length ≤ 1000000) : EC Tryd.prog 6 [.agg o.c, .int .u64 id, slL 1 (intC .u64) default pages] [] fun r N => N = [] ∧ r = r3k (forkO o id pages) := by
  refine EC.finK ?_
  (refine EC.enterK E_ok call_6 Tryd.func6 rfl (by simp [Tryd.ntmps6]) ?_; simp only [Tryd.ntmps6, Tryd.results6, push_cast, bne_self_eq_false, simprocAttr])
  intro fr
  (refine EC.useK E_ok (ec_pr_Valid o ho) ?_; simp only [push_cast, bne_self_eq_false, simprocAttr])
  refine ⟨fun h => ?_, fun h => ⟨fun h2 => ?_, fun h2 => ⟨fun h3 => ?_, fun h3 => ?_⟩⟩⟩
  · (repeat' (first | (refine EOK_run (m := 0) E_ok ?_; simp only [push_cast, bne_self_eq_false, simprocAttr]) | (refine EC.useK E_ok (ec_fail 1) ?_; simp only [push_cast, bne_self_eq_false, simprocAttr]) | apply Lt.bool | apply Lt.int | apply Lt.t2 | apply Lt.t3 | apply Lt.t4 | apply Lt.aggO | apply FzA.aggO | apply FzA.boolE | apply FzA.intE | apply Lt.str | (with_reducible intro _) | with_reducible apply And.intro | exact trivial)) <;> (first | rfl | exact ([] : List Own) | omega | contradiction | (simp [forkO, *]; done) | (simp_all [forkO]; done) | skip)
  · (repeat' (first | (refine EOK_run (m := 0) E_ok ?_; simp only [push_cast, bne_self_eq_false, simprocAttr]) | (refine EC.useK E_ok (ec_fail 8) ?_; simp only [push_cast, bne_self_eq_false, simprocAttr]) | apply Lt.bool | apply Lt.int | apply Lt.t2 | apply Lt.t3 | apply Lt.t4 | apply Lt.aggO | apply FzA.aggO | apply FzA.boolE | apply FzA.intE | apply Lt.str | (with_reducible intro _) | with_reducible apply And.intro | exact trivial)) <;> (first | rfl | exact ([] : List Own) | omega | contradiction | (simp [forkO, *]; done) | (simp_all [forkO]; done) | skip)
  · (repeat' (first | (refine EOK_run (m := 0) E_ok ?_; simp only [push_cast, bne_self_eq_false, simprocAttr]) | (refine EC.useK E_ok (ec_fail 3) ?_; simp only [push_cast, bne_self_eq_false, simprocAttr]) | apply Lt.bool | apply Lt.int | apply Lt.t2 | apply Lt.t3 | apply Lt.t4 | apply Lt.aggO | apply FzA.aggO | apply FzA.boolE | apply FzA.intE | apply Lt.str | (with_reducible intro _) | with_reducible apply And.intro | exact trivial)) <;> (first | rfl | exact ([] : List Own) | omega | contradiction | (simp [forkO, *]; done) | (simp_all [forkO]; done) | skip)
  cases g : (id == 0 || id == o.ID) with
  | true =>
    refine ⟨fun h => (nomatch h), fun _ => ?_⟩
    (repeat' (first | (refine EOK_run (m := 0) E_ok ?_; simp only [push_cast, bne_self_eq_false, simprocAttr]) | (refine EC.useK E_ok (ec_fail 1) ?_; simp only [push_cast, bne_self_eq_false, simprocAttr]) | apply Lt.bool | apply Lt.int | apply Lt.t2 | apply Lt.t3 | apply Lt.t4 | apply Lt.aggO | apply FzA.aggO | apply FzA.boolE | apply FzA.intE | apply Lt.str | (with_reducible intro _) | with_reducible apply And.intro | exact trivial)) <;> (first | rfl | exact ([] : List Own) | omega | contradiction | (simp [forkO, *]; done) | (simp_all [forkO]; done) | skip)
  | false =>
  refine ⟨fun _ => ?_, fun h => (nomatch h)⟩
  (refine EC.useK E_ok (ec_contains_u64 _ _ ho.1.1) ?_; simp only [push_cast, bne_self_eq_false, simprocAttr])
  refine ⟨fun h4 => ?_, fun h4 => ?_⟩
  · (repeat' (first | (refine EOK_run (m := 0) E_ok ?_; simp only [push_cast, bne_self_eq_false, simprocAttr]) | (refine EC.useK E_ok (ec_fail 1) ?_; simp only [push_cast, bne_self_eq_false, simprocAttr]) | apply Lt.bool | apply Lt.int | apply Lt.t2 | apply Lt.t3 | apply Lt.t4 | apply Lt.aggO | apply FzA.aggO | apply FzA.boolE | apply FzA.intE | apply Lt.str | (with_reducible intro _) | with_reducible apply And.intro | exact trivial)) <;> (first | rfl | exact ([] : List Own) | omega | contradiction | (simp [forkO, *]; done) | (simp_all [forkO]; done) | skip)
  (refine EC.useK E_ok (ec_space_Replace _ _ ho.1.2.2.2.1 hp) ?_; simp only [push_cast, bne_self_eq_false, simprocAttr])
  refine ⟨fun h5 => ?_, fun h5 => ?_⟩
  · (repeat' (first | (refine EOK_run (m := 0) E_ok ?_; simp only [push_cast, bne_self_eq_false, simprocAttr]) | (refine EC.useK E_ok (ec_fail _) ?_; simp only [push_cast, bne_self_eq_false, simprocAttr]) | apply Lt.bool | apply Lt.int | apply Lt.t2 | apply Lt.t3 | apply Lt.t4 | apply Lt.aggO | apply FzA.aggO | apply FzA.boolE | apply FzA.intE | apply Lt.str | (with_reducible intro _) | with_reducible apply And.intro | exact trivial)) <;> (first | rfl | exact ([] : List Own) | omega | contradiction | (simp [forkO, *]; done) | (simp_all [forkO]; done) | skip)
  have hv : prB o = true := by simpa using h
  have hn := prB_names hv
  have hr : (spRepl o.Process.Pages pages).1.length ≤ 1000000 := by
    have := ho.1.2.2.2.1
    simp only [spRepl]
    split
    · simp
    · split
      · simp
      · split
        · simp
        · rw [replL_len]; exact this
  have hy : smallO { childO o id with Process := { (childO o id).Process with Pages := (spRepl o.Process.Pages pages).1 } } := by
    obtain ⟨⟨a1, a2, a3, a4, a5⟩, a6⟩ := ho
    exact ⟨⟨Nat.zero_le _, a2, a3, hr, a5⟩, a6⟩
  have hf : forkO o id pages = if (!prB { childO o id with Process := { (childO o id).Process with Pages := (spRepl o.Process.Pages pages).1 } }) = true then (default, default, 1)
      else ({ o with Process := { o.Process with Children := o.Process.Children ++ [id] } }, { childO o id with Process := { (childO o id).Process with Pages := (spRepl o.Process.Pages pages).1 } }, 0) := by
    simp only [forkO, h, h2, h3, g, h4, h5, Bool.false_eq_true, if_false, Bool.or_false]
  rw [hf]
  (refine EC.useK E_ok (ec_child o id ho) ?_; simp only [push_cast, bne_self_eq_false, simprocAttr])
  generalize hY : ({ childO o id with Process := { (childO o id).Process with Pages := (spRepl o.Process.Pages pages).1 } } : GObject) = Y at *
  intro fr1
  (refine EC.useK E_ok (ec_pr_Valid Y hy) ?_; simp only [push_cast, bne_self_eq_false, simprocAttr])
  refine ⟨fun h6 => ?_, fun h6 => ?_⟩
  · rw [h6]
    (repeat' (first | (refine EOK_run (m := 0) E_ok ?_; simp only [push_cast, bne_self_eq_false, simprocAttr]) | (refine EC.useK E_ok (ec_fail 1) ?_; simp only [push_cast, bne_self_eq_false, simprocAttr]) | apply Lt.bool | apply Lt.int | apply Lt.t2 | apply Lt.t3 | apply Lt.t4 | apply Lt.aggO | apply FzA.aggO | apply FzA.boolE | apply FzA.intE | apply Lt.str | (with_reducible intro _) | with_reducible apply And.intro | exact trivial)) <;> (first | rfl | exact ([] : List Own) | omega | contradiction | (simp [*]; done) | (simp_all []; done) | skip)
  rw [h6]
  refine EC.useM (ec_copiedM o ho hn) (fun h i j => coS_le _ h i j) ?_
  intro rh
  simp only [coS, push_cast, bne_self_eq_false, simprocAttr]
  (repeat (refine EOK_run (m := 0) E_ok ?_; simp only [push_cast, bne_self_eq_false, simprocAttr]))
  refine fun fr2 fr3 => ⟨by have := ho.1.1; omega, ?_⟩
  have q1 : putL (GObject.c default) 0 (putL o.c 5 [SV.row 4 (fr3 5) 1 0 (o.Process.Children.length + 1)]) = putL o.c 5 [SV.row 4 (fr3 5) 1 0 (o.Process.Children.length + 1)] := putO (by rw [putL_length, GObject.len])
  (refine EV_drawn E_ok [] [false, true, true, false, false, false, false] [0, 1, 2, 3, 4] Tryd.follows (by kernel_rfl) (by kernel_rfl) (by kernel_rfl) ?_; intro R hR; simp only [push_cast, bne_self_eq_false, simprocAttr]; (repeat intro rh); (try (simp (disch := omega) only [i64_in', sub_elt, sub_elt0, getD_map2]; (try simp only [push_cast, bne_self_eq_false, simprocAttr]))); (repeat ((with_reducible apply And.intro); focus (first | (intro hA; exact ⟨hA, fun hB => (by first | (rw [hA, hB]; rfl) | simp_all)⟩) | omega | decide | (simp; done) | (simp; omega) | (intro hA; (repeat' apply And.intro) <;> first | exact hA | omega)))); (repeat intro rh); (repeat ((with_reducible apply And.intro); focus (first | (intro hA; exact ⟨hA, fun hB => (by first | (rw [hA, hB]; rfl) | simp_all)⟩) | omega | decide | (simp; done) | (simp; omega) | (intro hA; (repeat' apply And.intro) <;> first | exact hA | omega)))); (try apply_assumption -exfalso))
  simp only [push_cast, bne_self_eq_false, simprocAttr]
  have h7 : prB Y = true := by simpa using h6
  simp only [h7, Bool.true_eq_false, if_false, push_cast, bne_self_eq_false, simprocAttr]
  exact Lt.t3 (FzA.agg (FzL.put (FzL.O o) 5 (FzC.row rfl rfl (by simp)) rfl)) (FzA.aggO rfl) FzA.int
theorem idxI_lt (x : Int) (l : List Int) : ∀ i : Nat, 0 ≤ idxI x i l → idxI x i l < i + l.length := by
  induction l with
  | nil => intro i h; simp [idxI] at h
  | cons y t ih =>
    intro i h
    simp only [idxI, List.length_cons] at h ⊢
    split
    · omega
    · rename_i hne
      rw [if_neg hne] at h
      have := ih (i + 1) h
      push_cast at this ⊢
      omega
/-- A parent without a child that has ended. -/
def reapO (o c : GObject) : GObject × Int × Int :=
  if (!prB o || !prB c) = true then (default, 0, 1) else if (decide (idxI c.ID 0 o.Process.Children < 0) || c.Process.Parent != o.ID) = true then (default, 0, 14)
  else if (c.Process.State != 3) = true then (default, 0, 12)
  else ({ o with Process := { o.Process with Children := o.Process.Children.eraseIdx (idxI c.ID 0 o.Process.Children).toNat } }, c.Process.Status, 0)
def r3r (x : GObject × Int × Int) : SV := .tup [.agg x.1.c, .int .i64 x.2.1, .int .i64 x.2.2]
attribute [push_cast] r3r
theorem ec_Reap (o c : GObject) (ho : smallO o) (hc : smallO c) : EC Tryd.prog 8 [.agg o.c, .agg c.c] [] fun r N => N = [] ∧ r = r3r (reapO o c) := by
  refine EC.finK ?_
  (refine EC.enterK E_ok call_8 Tryd.func8 rfl (by simp [Tryd.ntmps8]) ?_; simp only [Tryd.ntmps8, Tryd.results8, push_cast, bne_self_eq_false, simprocAttr])
  intro fr
  (refine EC.useK E_ok (ec_index_u64 _ _ ho.1.1) ?_; simp only [push_cast, bne_self_eq_false, simprocAttr])
  (repeat' (first | (refine EOK_run (m := 0) E_ok ?_; simp only [push_cast, bne_self_eq_false, simprocAttr]) | (refine EC.useK E_ok (ec_pr_Valid o ho) ?_; simp only [push_cast, bne_self_eq_false, simprocAttr]) | (refine EC.useK E_ok (ec_pr_Valid c hc) ?_; simp only [push_cast, bne_self_eq_false, simprocAttr]) | apply Lt.bool | apply Lt.int | apply Lt.t2 | apply Lt.t3 | apply Lt.t4 | apply Lt.aggO | apply FzA.aggO | apply FzA.boolE | apply FzA.intE | apply Lt.str | (with_reducible intro _) | with_reducible apply And.intro | exact trivial)) <;> (first | rfl | exact ([] : List Own) | omega | contradiction | (simp [reapO, *]; done) | (simp_all [reapO]; done) | skip)
  all_goals try (simp only [reapO]; (repeat' split) <;> first | rfl | (simp_all; done) | (simp_all; omega))
  rename_i p1 p2 p3 p4
  have hn := prB_names p1
  have hx : 0 ≤ idxI c.ID 0 o.Process.Children := by simp at p3; omega
  obtain ⟨k, hk⟩ := Int.eq_ofNat_of_zero_le hx
  have hkl : k < o.Process.Children.length := by
    have := idxI_lt c.ID o.Process.Children 0
    omega
  have hw : IntKind.i64.wrap ((k : Int) + 1) = (k : Int) + 1 := i64_in' (by have := ho.1.1; omega)
  have hr : reapO o c = ({ o with Process := { o.Process with Children := o.Process.Children.eraseIdx k } }, c.Process.Status, 0) := by
    unfold reapO
    rw [if_neg (by rw [p2]; simp), if_neg (by rw [p3]; simp), if_neg (by rw [p4]; simp), hk]
    rfl
  refine EC.useM (ec_copiedM o ho hn) (fun h i j => coS_le _ h i j) ?_
  intro rh
  rw [hr]
  simp only [coS, hk, hw, push_cast, bne_self_eq_false, simprocAttr]
  (repeat (refine EOK_run (m := 0) E_ok ?_; simp only [hw, push_cast, bne_self_eq_false, simprocAttr]))
  intro fr2
  refine useAtD 3 (ec_delete rh _ k hkl ho.1.1) rfl (by repeat (first | exact LLe.nil | refine LLe.cons (by first | exact SLe.refl _ | exact SLe.row) ?_)) ?_
  intro rd
  (repeat (refine EOK_run (m := 0) E_ok ?_; simp only [push_cast, bne_self_eq_false, simprocAttr]))
  have q1 : putL (GObject.c default) 0 (putL o.c 5 [SV.row 3 rd 1 0 (o.Process.Children.length - 1)]) = putL o.c 5 [SV.row 3 rd 1 0 (o.Process.Children.length - 1)] := putO (by rw [putL_length, GObject.len])
  (refine EV_drawn E_ok [] [false, false, true, false, false] [0, 1, 2, 3, 4, 5, 6] Tryd.follows (by kernel_rfl) (by kernel_rfl) (by kernel_rfl) ?_; intro R hR; simp only [push_cast, bne_self_eq_false, simprocAttr]; (repeat intro rh); (try (simp (disch := omega) only [i64_in', sub_elt, sub_elt0, getD_map2]; (try simp only [push_cast, bne_self_eq_false, simprocAttr]))); (repeat ((with_reducible apply And.intro); focus (first | (intro hA; exact ⟨hA, fun hB => (by first | (rw [hA, hB]; rfl) | simp_all)⟩) | omega | decide | (simp; done) | (simp; omega) | (intro hA; (repeat' apply And.intro) <;> first | exact hA | omega)))); (repeat intro rh); (repeat ((with_reducible apply And.intro); focus (first | (intro hA; exact ⟨hA, fun hB => (by first | (rw [hA, hB]; rfl) | simp_all)⟩) | omega | decide | (simp; done) | (simp; omega) | (intro hA; (repeat' apply And.intro) <;> first | exact hA | omega)))); (try apply_assumption -exfalso))
  simp only [push_cast, bne_self_eq_false, simprocAttr]
  have e3 : (o.Process.Children.eraseIdx k).length = o.Process.Children.length - 1 := by rw [List.length_eraseIdx, if_pos hkl]
  exact Lt.t3 (FzA.agg (FzL.put (FzL.O o) 5 (FzC.part rfl rfl e3.symm (by rw [List.drop_zero, List.take_left' e3]) (by simp [e3])) rfl)) FzA.int FzA.int
/-- A process without a parent and without pages. -/
def newO0 (id : Int) (p : GProgram) : GObject × Int :=
  if (id == 0 || chkE p != 0) = true then (default, 1) else if ((0 : Int) != p.Pages) = true then (default, 2)
  else if (!prB { (default : GObject) with ID := id, Kind := 1, Process := { (default : GProcess) with State := 1, Program := p } }) = true then (default, 1)
  else ({ (default : GObject) with ID := id, Kind := 1, Process := { (default : GProcess) with State := 1, Program := p } }, 0)
def r2k (x : GObject × Int) : SV := .tup [.agg x.1.c, .int .i64 x.2]
attribute [push_cast] r2k
theorem ec_New0 (id : Int) (p : GProgram) (h1 : p.Code.length ≤ 1000000) (h2 : p.Strings.length ≤ 1000000) : EC Tryd.prog 5 [.int .u64 id, .agg p.c, .sl true 0 0 fun _ => []] [] fun r N => N = [] ∧ r = r2k (newO0 id p) := by
  refine EC.finK ?_
  (refine EC.enterK E_ok call_5 Tryd.func5 rfl (by simp [Tryd.ntmps5]) ?_; simp only [Tryd.ntmps5, Tryd.results5, push_cast, bne_self_eq_false, simprocAttr])
  intro fr
  (refine EC.useKP E_ok (ec_Check _ h1 h2) ?_; rintro x -; simp only [push_cast, bne_self_eq_false, simprocAttr])
  have hp : smallO { (default : GObject) with ID := id, Kind := 1, Process := { (default : GProcess) with State := 1, Program := p } } := ⟨⟨Nat.zero_le _, h1, h2, Nat.zero_le _, Nat.zero_le _⟩, Nat.zero_le _, Nat.zero_le _, Nat.zero_le _, Nat.zero_le _, Nat.zero_le _, Nat.zero_le _, by intro n hn; cases hn⟩
  refine ⟨fun g => ?_, fun g => ⟨fun g2 => ?_, fun g2 => ?_⟩⟩
  · (repeat' (first | (refine EOK_run (m := 0) E_ok ?_; simp only [push_cast, bne_self_eq_false, simprocAttr]) | apply Lt.bool | apply Lt.int | apply Lt.t2 | apply Lt.t3 | apply Lt.t4 | apply Lt.aggO | apply FzA.aggO | apply FzA.boolE | apply FzA.intE | apply Lt.str | (with_reducible intro _) | with_reducible apply And.intro | exact trivial)) <;> (first | rfl | exact ([] : List Own) | omega | contradiction | (simp [newO0, *]; done) | (simp_all [newO0]; done) | skip)
  · have hr : newO0 id p = (default, 2) := by unfold newO0; rw [if_neg (by rw [g]; simp), if_pos g2]
    rw [hr]
    (repeat' (first | (refine EOK_run (m := 0) E_ok ?_; simp only [push_cast, bne_self_eq_false, simprocAttr]) | apply Lt.bool | apply Lt.int | apply Lt.t2 | apply Lt.t3 | apply Lt.t4 | apply Lt.aggO | apply FzA.aggO | apply FzA.boolE | apply FzA.intE | apply Lt.str | (with_reducible intro _) | with_reducible apply And.intro | exact trivial)) <;> (first | rfl | exact ([] : List Own) | omega | contradiction | (simp [*]; done) | (simp_all []; done) | skip)
  have hr : newO0 id p = if (!prB { (default : GObject) with ID := id, Kind := 1, Process := { (default : GProcess) with State := 1, Program := p } }) = true then (default, 1)
      else ({ (default : GObject) with ID := id, Kind := 1, Process := { (default : GProcess) with State := 1, Program := p } }, 0) := by unfold newO0; rw [if_neg (by rw [g]; simp), if_neg (by rw [g2]; simp)]
  rw [hr]
  generalize hY : ({ (default : GObject) with ID := id, Kind := 1, Process := { (default : GProcess) with State := 1, Program := p } } : GObject) = Y at *
  (refine EC.useK E_ok (ec_clone_Program p h1 h2) ?_; simp only [push_cast, bne_self_eq_false, simprocAttr])
  intro fr1
  dsimp only at hY
  rw [hY]
  refine EV_loopK E_ok [6, 10, 36, 37] (fun i : Nat => [(38, .int .i64 i)]) (fun B _ => B) (fun i => i = 0) (fun _ => 1) 0 rfl ?_
  rintro i rfl
  simp only [push_cast, bne_self_eq_false, simprocAttr]
  (refine EC.useK E_ok (ec_pr_Valid Y hp) ?_; simp only [push_cast, bne_self_eq_false, simprocAttr])
  refine ⟨fun g3 => ?_, fun g3 => ?_⟩
  · (repeat' (first | (refine EOK_run (m := 0) E_ok ?_; simp only [push_cast, bne_self_eq_false, simprocAttr]) | apply Lt.bool | apply Lt.int | apply Lt.t2 | apply Lt.t3 | apply Lt.t4 | apply Lt.aggO | apply FzA.aggO | apply FzA.boolE | apply FzA.intE | apply Lt.str | (with_reducible intro _) | with_reducible apply And.intro | exact trivial)) <;> (first | rfl | exact ([] : List Own) | omega | contradiction | (simp [*]; done) | (simp_all []; done) | skip)
  · have g4 : prB Y = true := by simpa using g3
    (repeat' (first | (refine EOK_run (m := 0) E_ok ?_; simp only [push_cast, bne_self_eq_false, simprocAttr]) | apply Lt.bool | apply Lt.int | apply Lt.t2 | apply Lt.t3 | apply Lt.t4 | apply Lt.aggO | apply FzA.aggO | apply FzA.boolE | apply FzA.intE | apply Lt.str | (with_reducible intro _) | with_reducible apply And.intro | exact trivial)) <;> (first | rfl | exact ([] : List Own) | omega | contradiction | (simp [*]; done) | (simp_all []; done) | skip)
end Go.Proofs.YtfmldmafigpblaaDoor
