/- Part 15: LmE. -/
import Derived.Test.YtfmldmafigpblaaGreatDoorU06
import Derived.Test.YtfmldmafigpblaaGreatDoorU13
section
namespace Go.Proofs.YtfmldmafigpblaaGreatDoor
open Go.Lift
set_option linter.unusedSimpArgs false
set_option linter.unusedVariables false
set_option maxRecDepth 10000
set_option maxHeartbeats 4000000
theorem small_new {id : Int} {p : GProgram} {pages : List Int} (h1 : p.Code.length ≤ 1000000) (h2 : p.Strings.length ≤ 1000000) (h3 : pages.length ≤ 1000000) : smallO (newO id p pages).1 ∧ pendO (newO id p pages).1 := by
  unfold newO
  repeat' split
  · exact ⟨small_def, pend_def⟩
  · exact ⟨small_def, pend_def⟩
  · exact ⟨small_def, pend_def⟩
  · exact ⟨⟨⟨Nat.zero_le _, h1, h2, by show (pages.map _).length ≤ _; rw [List.length_map]; exact h3, Nat.zero_le _⟩, Nat.zero_le _, Nat.zero_le _, Nat.zero_le _, Nat.zero_le _, Nat.zero_le _, Nat.zero_le _, by intro n hn; cases hn⟩, pend_def⟩
theorem small_fork {o : GObject} {id : Int} {pages : List Int} (ho : smallO o) : smallO (forkO o id pages).1 ∧ smallO (forkO o id pages).2.1 := by
  unfold forkO
  repeat' split
  all_goals first
    | exact ⟨small_def, small_def⟩
    | skip
  rename_i h1 h2 h3 h4 h5 h6
  have hv : prB o = true := by simpa using h1
  have hl : o.Process.Children.length ≤ 32 := ((famB_iff o).1 (prB_only hv).2.2.2).2.2
  refine ⟨⟨⟨by show (o.Process.Children ++ [id]).length ≤ _; simp; omega, ho.1.2⟩, ho.2⟩, ⟨⟨Nat.zero_le _, ho.1.2.1, ho.1.2.2.1, spRepl_len ho.1.2.2.2.1, ho.1.2.2.2.2⟩, ho.2⟩⟩
theorem small_end {o : GObject} {st : Int} : smallO (endO o st).1 := by
  unfold endO
  repeat' split
  all_goals exact ⟨⟨Nat.zero_le _, Nat.zero_le _, Nat.zero_le _, Nat.zero_le _, Nat.zero_le _⟩, Nat.zero_le _, Nat.zero_le _, Nat.zero_le _, Nat.zero_le _, Nat.zero_le _, Nat.zero_le _, by intro n hn; cases hn⟩
theorem small_orph {o : GObject} (ho : smallO o) : smallO (orphO o).1 := by
  unfold orphO
  repeat' split
  all_goals first | exact small_def | exact ho
theorem keepP_small {p : GProgram} (h : keepP p = true) : p.Code.length ≤ 1000000 ∧ p.Strings.length ≤ 1000000 := by
  simp [keepP] at h; omega
theorem md16s {o : GObject} {k : GKernel} (h : md16 o k) : smallO o ∧ pendO o := by
  rcases h.pr with rfl | ⟨h1, _⟩
  · exact ⟨small_def, pend_def⟩
  · obtain ⟨D, h2, _⟩ := h.kn.ex
    exact ⟨(h2 o h1).sm, (h2 o h1).pd⟩
attribute [local irreducible] EC EV endO orphO forkR forkO newO keepO keepP prB spPriv idsF
theorem ec_Lives (raw : GObject) (l : List Int) (id : Int) (pages : List Int) (st : Int) (p : GProgram) (h1 : raw.Names.length ≤ 9223372036854775807) (h2 : raw.Process.Program.Strings.length ≤ 9223372036854775807) (hpr : pendO raw) (hp : p.Strings.length ≤ 9223372036854775807) (hl : ∀ y ∈ l, 0 ≤ y ∧ y ≤ 255) : EC Tryz.prog 4 [.agg raw.c, slL 1 (intC .u8) default l, .int .u64 id, slL 1 (intC .u64) default pages, .int .i64 st, .agg p.c] [] fun r N => N = [] ∧ r = .bool true := by
  refine EC.finK ?_
  (refine nW E_ok call_4 Tryz.func4 Tryz.ntmps4 Tryz.results4 ?_)
  (repeat' (first | (with_reducible intro hh; (first | subst hh | (revert hh; with_reducible intro _))) | with_reducible apply And.intro | refine eK E_ok ?_ | refine EC.use (ec_sane) ?_ | refine EC.use (ec_keep_Object raw h1 h2) ?_ | refine EC.use (ec_keep_Program p hp) ?_ | refine wA E_ok ?_ | exact trivial | contradiction)) <;> (first | (exact Lt.bool rfl) | assumption | (exfalso; simp_all; done) | skip)
  rename_i f0 hka hkb
  obtain ⟨hkp, hpl⟩ : keepP p = true ∧ pages.length ≤ 20 := by simp [hka] at hkb; exact ⟨hkb.1, by omega⟩
  obtain ⟨hp1, hp2⟩ := keepP_small hkp
  have hsr : smallO raw := keepO_small hka
  obtain ⟨hsb, hpb⟩ := small_new (id := id) (pages := pages) hp1 hp2 (by omega)
  have cN := ec_New id p pages hp1 hp2 (by omega)
  have cM := ec_ref16_New id p pages hp1 hp2 (by omega)
  have cS := ec_same_Object _ hsb
  generalize newO id p pages = nb at cN cM cS hsb hpb
  obtain ⟨nb, ne⟩ := nb
  simp only at hsb hpb cS
  (repeat' (first | (with_reducible intro hh; (first | subst hh | (revert hh; with_reducible intro _))) | with_reducible apply And.intro | refine eK E_ok ?_ | refine EC.use (cN) ?_ | refine EC.use (cM) ?_ | refine EC.use (cS) ?_ | refine wA E_ok ?_ | exact trivial | contradiction)) <;> (first | (exact Lt.bool rfl) | (exfalso; simp_all; done) | skip)
  refine EC.useN (σ := RowH × GObject × GKernel × WD) (R := fun s i => .tup [.agg s.2.1.c, .agg s.2.2.1.c, .rptr i s.1 1 0 0]) (N := fun s => [dRow s.1 s.2.2.2.1]) (ec_made16 l hl) (fun _ _ => SLe.tup (.cons (SLe.refl _) (.cons (SLe.refl _) (.cons SLe.rptr .nil)))) ?_
  rintro ⟨h, o, k, d⟩ hk
  simp only at hk
  obtain ⟨hso, hpo⟩ := md16s hk
  have hlo := hk.kn.lo
  have hhi := hk.kn.hi
  have hpr' := spPriv_16 o.Process.Pages
  have hln : (idsF k.Serial (1 + (spPriv o.Process.Pages).length)).length = 1 + (spPriv o.Process.Pages).length := idsF_len _ _
  have hFr := ec_made_Fresh k (1 + (spPriv o.Process.Pages).length) (by omega) (by omega)
  have hw : IntKind.i64.wrap (1 + ((spPriv o.Process.Pages).length : Int)) = ((1 + (spPriv o.Process.Pages).length : Nat) : Int) := by rw [i64_in' (by omega)]; omega
  rw [← hw] at hFr
  generalize idsF k.Serial (1 + (spPriv o.Process.Pages).length) = fs at hln hFr
  refine EOK_run (m := 0) E_ok ?_
  simp only [push_cast, simprocAttr]
  (repeat' (first | (with_reducible intro hh; (first | subst hh | (revert hh; with_reducible intro _))) | with_reducible apply And.intro | refine eK E_ok ?_ | refine EC.use (ec_ref07_Private _ hso.1.2.2.2.1) ?_ | refine EC.use (hFr) ?_ | refine dN E_ok [] [] [0, 1, 2, 3, 4, 5, 6, 7, 8] fol fun R hR => ?_ | refine dR E_ok [5, 6, 7, 8] ?_ | refine dR E_ok [8] ?_ | (refine hR _ _ ?_; refine sA ?_) | refine wA E_ok ?_ | exact trivial | contradiction)) <;> (first | omega | skip)
  have hall : ∀ x ∈ [raw, o, nb], smallO x ∧ pendO x := fun x hx => by
    rcases List.mem_cons.1 hx with rfl | hx
    · exact ⟨hsr, hpr⟩
    rcases List.mem_cons.1 hx with rfl | hx
    · exact ⟨hso, hpo⟩
    · rw [List.mem_singleton.1 hx]; exact ⟨hsb, hpb⟩
  refine EV_freeze 0 [(2, .int .u64 id), (3, slL 1 (intC .u64) default pages), (4, .int .i64 st), (20, slL 1 (intC .u64) default fs), (96, slL 36 GObject.c default [raw, o, nb]), (97, .int .i64 3), (98, .int .i64 0)] ⟨⟨trivial, SLe.refl _⟩, ⟨trivial, SLe.refl _⟩, ⟨trivial, SLe.refl _⟩, ⟨trivial, SLe.refl _⟩, Lk.row (by decide) rfl rfl rfl, ⟨trivial, SLe.refl _⟩, ⟨trivial, SLe.refl _⟩, trivial⟩ ?_
  simp only [List.take_zero]
  have hl3 : [raw, o, nb].length = 3 := rfl
  generalize [raw, o, nb] = ls at hall hl3
  have hF0 : ∀ x, smallO x → EC Tryz.prog 17 [.agg x.c, .int .u64 (fs.getD 0 default), .sl false 1 (fs.length - 1) (elt (intC .u64) default (fs.drop 1))] [] fun r N => N = [] ∧ r = r3k (forkO x (fs.getD 0 default) (fs.drop 1)) := fun x hx => by
    have := ec_Fork x (fs.getD 0 default) (fs.drop 1) hx (by simp; omega)
    rwa [show slL 1 (intC .u64) default (fs.drop 1) = .sl false 1 (fs.length - 1) (elt (intC .u64) default (fs.drop 1)) by rw [← List.length_drop]; rfl] at this
  have hG0 : ∀ x, smallO x → pendO x → EC Tryz.prog 18 [.agg x.c, .int .u64 (fs.getD 0 default), .sl false 1 (fs.length - 1) (elt (intC .u64) default (fs.drop 1))] [] fun r N => N = [] ∧ r = r3k (forkO x (fs.getD 0 default) (fs.drop 1)) := fun x hx hp => by
    have := ec_ref16_Fork x (fs.getD 0 default) (fs.drop 1) hx hp (by simp; omega)
    rwa [fork_eq, show slL 1 (intC .u64) default (fs.drop 1) = .sl false 1 (fs.length - 1) (elt (intC .u64) default (fs.drop 1)) by rw [← List.length_drop]; rfl] at this
  refine EV_loopW E_ok [2, 3, 4, 20, 96, 97] (fun i : Nat => [(98, .int .i64 i)]) (fun B _ => B) (fun i => i ≤ 3) (fun i => 3 - i) 0 (Nat.zero_le _) ?_
  rintro i hi
  replace hi : i ≤ 3 := hi
  have hw : IntKind.i64.wrap ((i : Int) + 1) = ((i + 1 : Nat) : Int) := by rw [i64_in' (by omega)]; omega
  simp only [hw, hl3, push_cast, simprocAttr]
  refine ⟨fun hc => ?_, fun hc => ?_⟩
  · have hxi := hall _ (getD_mem (l := ls) (i := i) (by omega))
    generalize ls.getD i default = x at hxi
    obtain ⟨hx, px⟩ := hxi
    have cF := ec_Fork x id pages hx (by omega)
    have cG := ec_ref16_Fork x id pages hx px (by omega)
    rw [fork_eq] at cG
    have cF1 := ec_same_Object _ (small_fork (id := id) (pages := pages) hx).1
    have cF2 := ec_same_Object _ (small_fork (id := id) (pages := pages) hx).2
    generalize forkO x id pages = f1 at cF cG cF1 cF2
    have cH := hF0 x hx
    have cI := hG0 x hx px
    have cH1 := ec_same_Object _ (small_fork (id := fs.getD 0 default) (pages := fs.drop 1) hx).1
    have cH2 := ec_same_Object _ (small_fork (id := fs.getD 0 default) (pages := fs.drop 1) hx).2
    generalize forkO x (fs.getD 0 default) (fs.drop 1) = f2 at cH cI cH1 cH2
    have cE := ec_End x st hx
    have cD := ec_ref16_End x st hx px
    have cE1 := ec_same_Object _ (small_end (o := x) (st := st))
    generalize endO x st = e1 at cE cD cE1
    have cO := ec_Orphan x hx
    have cP := ec_ref16_Orphan x hx px
    have cO1 := ec_same_Object _ (small_orph hx)
    generalize orphO x = o1 at cO cP cO1
    have cV := ec_pr_Valid x hx
    have cW := ec_ref16_Valid x hx px
    generalize prB x = v at cV cW
    (repeat' (first | (with_reducible intro hh; (first | subst hh | (revert hh; with_reducible intro _))) | with_reducible apply And.intro | refine eK E_ok ?_ | refine EC.use (cF) ?_ | refine EC.use (cG) ?_ | refine EC.use (cF1) ?_ | refine EC.use (cF2) ?_ | refine EC.use (cH) ?_ | refine EC.use (cI) ?_ | refine EC.use (cH1) ?_ | refine EC.use (cH2) ?_ | refine EC.use (cE) ?_ | refine EC.use (cD) ?_ | refine EC.use (cE1) ?_ | refine EC.use (cO) ?_ | refine EC.use (cP) ?_ | refine EC.use (cO1) ?_ | refine EC.use (cV) ?_ | refine EC.use (cW) ?_ | refine dN E_ok [] [] [0, 1, 2, 3, 4, 5, 6, 7, 8] fol fun R hR => ?_ | refine dM E_ok 10 [0, 1, 2, 3, 4, 5, 6, 7, 8, 9, 10, 11, 12, 13] [1, 2, 4, 5] fol fun R hR => ?_ | refine dM E_ok 10 [0, 1, 2, 3, 4, 5, 6, 7, 8, 9, 10, 11, 12, 13] [1, 2, 4, 5] fol fun R hR => ?_ | refine dN E_ok [] [] [0, 1, 2, 3, 4, 5, 6, 7, 8, 9, 10, 11, 12, 13, 14, 15, 16, 17, 18, 19, 20, 21, 22, 23, 24, 25, 26, 27, 28, 29, 30, 31, 33, 32, 34, 35, 36] fol fun R hR => ?_ | refine dR E_ok [5, 6, 7, 8] ?_ | refine dR E_ok [8] ?_ | refine ed2 E_ok 0 3 ?_ ?_ | refine ed1 E_ok 3 ?_ | refine ed1 E_ok 0 ?_ | refine dR E_ok [6, 7, 8, 9, 10, 11, 12, 13] ?_ | refine dR E_ok [7, 8, 9, 10, 11, 12, 13] ?_ | refine dR E_ok [12, 13, 14, 15, 16, 17, 18, 19, 20, 21, 22, 23, 24, 25, 26, 27, 28, 29, 30, 31, 33, 32, 34, 35, 36] ?_ | refine dR E_ok [28, 29, 30, 31, 33, 32, 34, 35, 36] ?_ | refine dR E_ok [34, 35, 36] ?_ | refine dR E_ok [35, 36] ?_ | (refine hR _ _ ?_; refine sA ?_) | refine wA E_ok ?_ | exact trivial | contradiction)) <;> (first | omega | (exfalso; simp_all; done) | ((try simp only [hw]); exact NX_mk (i + 1) (by show i + 1 ≤ _; omega)) | skip)
  · (repeat' (first | (with_reducible intro hh; (first | subst hh | (revert hh; with_reducible intro _))) | with_reducible apply And.intro | refine eK E_ok ?_ | refine wA E_ok ?_ | exact trivial | contradiction)) <;> (first | (exact Lt.bool rfl) | skip)
end Go.Proofs.YtfmldmafigpblaaGreatDoor
end
