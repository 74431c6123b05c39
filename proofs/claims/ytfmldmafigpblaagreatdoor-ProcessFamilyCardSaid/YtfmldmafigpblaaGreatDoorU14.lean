/- Part 14: LmD. -/
import Derived.Test.YtfmldmafigpblaaGreatDoorU06
import Derived.Test.YtfmldmafigpblaaGreatDoorU13
section
namespace Go.Proofs.YtfmldmafigpblaaGreatDoor
open Go.Lift
set_option linter.unusedSimpArgs false
set_option linter.unusedVariables false
set_option maxRecDepth 10000
set_option maxHeartbeats 4000000
theorem md16.small {o : GObject} {k : GKernel} (h : md16 o k) : smallO o ∧ pendO o := by
  rcases h.pr with rfl | ⟨h1, _⟩
  · exact ⟨small_def, pend_def⟩
  · obtain ⟨D, h2, _⟩ := h.kn.ex
    exact ⟨(h2 o h1).sm, (h2 o h1).pd⟩
theorem md16.fresh {o : GObject} {k : GKernel} (h : md16 o k) (hk : o.Kind ≠ 0) (hs : o.Process.State = 1) : Liv o ∧ (k.Serial + 1 ≠ o.ID ∧ k.Serial + 1 ∉ o.Process.Children) ∧ ∀ x, k.Serial < x → ∀ p ∈ o.Process.Pages, p.ID ≠ x := by
  rcases h.pr with rfl | ⟨h1, h3⟩
  · exact absurd rfl hk
  obtain ⟨D, h2, _⟩ := h.kn.ex
  have ho := h2 o h1
  refine ⟨Liv.of (ho.pr h3) (by rw [hs]; decide), ⟨?_, ?_⟩, ?_⟩
  · have : o.ID ≤ k.Serial := ho.kn.1
    omega
  · intro hc
    have : k.Serial + 1 ≤ k.Serial := ho.kn.2.1 _ hc
    omega
  · intro x hx p hp he
    have : p.ID ≤ k.Serial := ho.kn.2.2.1 p hp
    omega
theorem idsF_0 (s : Int) (n : Nat) : (idsF s (1 + n)).getD 0 default = s + 1 := by simp [idsF, List.getD, List.range_succ_eq_map, Nat.add_comm 1 n]
theorem small_zom {id par st : Int} : smallO (zomO id par st) := ⟨⟨Nat.zero_le _, Nat.zero_le _, Nat.zero_le _, Nat.zero_le _, Nat.zero_le _⟩, Nat.zero_le _, Nat.zero_le _, Nat.zero_le _, Nat.zero_le _, Nat.zero_le _, Nat.zero_le _, by intro n hn; cases hn⟩
attribute [local irreducible] EC EV endO orphO reapR reapO forkR forkO chR zomO prB spPriv idsF
theorem ec_Family (l : List Int) (st : Int) (b : Bool) (hl : ∀ y ∈ l, 0 ≤ y ∧ y ≤ 255) : EC Tryz.prog 5 [slL 1 (intC .u8) default l, .int .i64 st, .bool b] [] fun r N => N = [] ∧ r = .bool true := by
  refine EC.finK ?_
  (refine nW E_ok call_5 Tryz.func5 Tryz.ntmps5 Tryz.results5 ?_)
  (repeat' (first | (with_reducible intro hh; (first | subst hh | (revert hh; with_reducible intro _))) | with_reducible apply And.intro | refine eK E_ok ?_ | refine EC.use (ec_sane) ?_ | refine wA E_ok ?_ | exact trivial | contradiction)) <;> (first | (exact Lt.bool rfl) | (exfalso; simp_all; done) | skip)
  refine EC.useN (σ := RowH × GObject × GKernel × WD) (R := fun s i => .tup [.agg s.2.1.c, .agg s.2.2.1.c, .rptr i s.1 1 0 0]) (N := fun s => [dRow s.1 s.2.2.2.1]) (ec_made16 l hl) (fun _ _ => SLe.tup (.cons (SLe.refl _) (.cons (SLe.refl _) (.cons SLe.rptr .nil)))) ?_
  rintro ⟨h, o, k, d⟩ hk
  simp only at hk
  have hsm := hk.small.1
  have hch := hsm.1.1
  refine EOK_run (m := 0) E_ok ?_
  simp only [push_cast, simprocAttr]
  (repeat' (first | (with_reducible intro hh; (first | subst hh | (revert hh; with_reducible intro _))) | with_reducible apply And.intro | refine eK E_ok ?_ | refine wA E_ok ?_ | exact trivial | contradiction)) <;> (first | (exact Lt.bool rfl) | skip)
  rename_i f1 hc
  obtain ⟨⟨hk0, hs1⟩, hcl⟩ : (¬ o.Kind = 0 ∧ o.Process.State = 1) ∧ o.Process.Children.length < 32 := by simp at hc; omega
  obtain ⟨hlv, ⟨hi1, hi2⟩, hpg⟩ := hk.fresh hk0 hs1
  have hlo := hk.kn.lo
  have hhi := hk.kn.hi
  have hpr := spPriv_16 o.Process.Pages
  have hnw := idsF_new (s := k.Serial) (n := 1 + (spPriv o.Process.Pages).length) (by omega) (by omega)
  have hmem := fun x => @idsF_mem k.Serial x (1 + (spPriv o.Process.Pages).length)
  have h0 := idsF_0 k.Serial (spPriv o.Process.Pages).length
  have hln : (idsF k.Serial (1 + (spPriv o.Process.Pages).length)).length = 1 + (spPriv o.Process.Pages).length := idsF_len _ _
  have hFr := ec_made_Fresh k (1 + (spPriv o.Process.Pages).length) (by omega) (by omega)
  have hw : IntKind.i64.wrap (1 + ((spPriv o.Process.Pages).length : Int)) = ((1 + (spPriv o.Process.Pages).length : Nat) : Int) := by rw [i64_in' (by omega)]; omega
  rw [← hw] at hFr
  generalize idsF k.Serial (1 + (spPriv o.Process.Pages).length) = fs at hnw hmem h0 hln hFr
  have hfk := fork_new (id := fs.getD 0 default) (r := fs.drop 1) hlv hs1 hcl (by rw [h0]; exact ⟨by omega, hi1, hi2⟩) (by simp; omega) ((List.drop_sublist 1 _).nodup hnw.nd)
    (fun x hx => by have := (hmem x).1 (List.mem_of_mem_drop hx); omega) (fun x hx q hq => hpg x (by have := (hmem x).1 (List.mem_of_mem_drop hx); omega) q hq)
  have hF := ec_Fork o (fs.getD 0 default) (fs.drop 1) hsm (by simp; omega)
  rw [← fork_eq, hfk.1, show slL 1 (intC .u64) default (fs.drop 1) = .sl false 1 (fs.length - 1) (elt (intC .u64) default (fs.drop 1)) by rw [← List.length_drop]; rfl] at hF
  (repeat' (first | (with_reducible intro hh; (first | subst hh | (revert hh; with_reducible intro _))) | with_reducible apply And.intro | refine eK E_ok ?_ | refine EC.use (ec_ref07_Private _ hsm.1.2.2.2.1) ?_ | refine EC.use (hFr) ?_ | refine dN E_ok [] [] [0, 1, 2, 3, 4, 5, 6, 7, 8] fol fun R hR => ?_ | refine dR E_ok [5, 6, 7, 8] ?_ | refine dR E_ok [8] ?_ | (refine hR _ _ ?_; refine sA ?_) | refine wA E_ok ?_ | exact trivial | contradiction)) <;> (first | omega | skip)
  have hid : fs.getD 0 default ∉ o.Process.Children := by rw [h0]; exact hi2
  obtain ⟨P, hP⟩ : ∃ P, P = { o with Process := { o.Process with Children := o.Process.Children ++ [fs.getD 0 default] } } := ⟨_, rfl⟩
  obtain ⟨C, hC⟩ : ∃ C, C = chR o (fs.getD 0 default) (replL o.Process.Pages (fs.drop 1)) := ⟨_, rfl⟩
  rw [← hP, ← hC] at hF
  obtain ⟨-, hLP, hLC⟩ := hfk
  rw [← hP] at hLP
  rw [← hC] at hLC
  have hCid : C.ID = fs.getD 0 default := by rw [hC]; unfold chR; rfl
  have hC1 : C.Process.CPU = o.Process.CPU := by rw [hC]; unfold chR; rfl
  have hC2 : C.Process.Parent = o.ID := by rw [hC]; unfold chR; rfl
  have hC3 : C.Process.Children = [] := by rw [hC]; unfold chR; rfl
  have hPl : P.Process.Children.length = o.Process.Children.length + 1 := by rw [hP]; simp
  have hw3 : IntKind.i64.wrap ((o.Process.Children.length : Int) + 1) = (o.Process.Children.length : Int) + 1 := i64_in' (by omega)
  have hsC : smallO C := by
    rw [hC]; unfold chR
    exact ⟨⟨Nat.zero_le _, hsm.1.2.1, hsm.1.2.2.1, by show (replL _ _).length ≤ _; rw [replL_len]; exact hsm.1.2.2.2.1, hsm.1.2.2.2.2⟩, Nat.zero_le _, Nat.zero_le _, Nat.zero_le _, Nat.zero_le _, Nat.zero_le _, Nat.zero_le _, by intro n hn; cases hn⟩
  have hsP : smallO P := by rw [hP]; exact ⟨⟨by show (o.Process.Children ++ [_]).length ≤ _; simp; omega, hsm.1.2⟩, hsm.2⟩
  have hpar : C.Process.Parent ≠ 0 := by rw [hC2]; exact hlv.id
  have hL := reap_life (st := st) hlv (c := C) (by rw [hCid, ← hP]; exact hLP) hLC hC2 (by rw [hCid]; exact hid)
  rw [hCid, ← hP] at hL
  obtain ⟨hr1, hr2, hr3⟩ := hL
  have hz1 : fs.getD 0 default ≠ 0 := by rw [← hCid]; exact hLC.id
  have hz2 : o.ID ≠ fs.getD 0 default := by rw [← hCid, ← hC2]; exact hLC.par
  obtain ⟨Z, hZ⟩ : ∃ Z, Z = zomO (fs.getD 0 default) o.ID st := ⟨_, rfl⟩
  rw [← hZ] at hr2 hr3
  have hsZ : smallO Z := by rw [hZ]; exact small_zom
  have cP := ec_pr_Valid P hsP
  rw [hLP.pr] at cP
  have cC := ec_pr_Valid C hsC
  rw [hLC.pr] at cC
  have cO := ec_Orphan C hsC
  rw [(orph_liv hLC hpar).1] at cO
  have cE1 := ec_End { C with Process := { C.Process with Parent := 0 } } st hsC
  rw [(orph_liv hLC hpar).2 st] at cE1
  have cR1 := ec_Reap P C hsP hsC
  rw [← reap_eq, hr1] at cR1
  have cE2 := ec_End C st hsC
  rw [end_zom hLC hpar, hC2, hCid, ← hZ] at cE2
  have cR2 := ec_Reap P Z hsP hsZ
  rw [← reap_eq, hr2] at cR2
  have cS := ec_same_Object o hsm
  have cR3 := ec_Reap o Z hsm hsZ
  rw [← reap_eq, hr3] at cR3
  have cO2 := ec_Orphan Z hsZ
  rw [show orphO Z = (default, true, 0) by rw [hZ]; exact orph_zom hz1 hlv.id hz2] at cO2
  have cZ := ec_pr_Valid Z hsZ
  rw [show prB Z = true by rw [hZ]; exact zom_pr hz1 hlv.id hz2] at cZ
  refine EV_meetW (σ := Bool × RowH × RowH) [1, 2, 7] (fun s => [(11, .rptr (bif s.1 then 3 else 4) s.2.1 36 0 0), (12, .rptr (bif s.1 then 4 else 3) s.2.2 36 0 0), (13, .int .i64 0)]) (fun B s => B ++ [bif s.1 then .row s.2.1 41 36 [P.c] else .row s.2.2 41 36 [C.c], bif s.1 then .row s.2.2 41 36 [C.c] else .row s.2.1 41 36 [P.c]]) (fun _ => True) ?_ ?_
  rotate_left 1
  · (repeat' (first | (with_reducible intro hh; (first | subst hh | (revert hh; with_reducible intro _))) | with_reducible apply And.intro | refine eK E_ok ?_ | refine EC.use (hF) ?_ | refine dM E_ok 10 [] [0, 1, 2, 3, 4, 5] fol fun R hR => ?_ | refine ed3 E_ok 6 11 12 ?_ ?_ ?_ | refine dP E_ok 5 [7, 8, 9, 10] ?_ | refine ed2 E_ok 11 12 ?_ ?_ | refine ed2 E_ok 6 12 ?_ ?_ | refine ed2 E_ok 6 11 ?_ ?_ | refine dR E_ok [12, 13, 14, 15] ?_ | refine dR E_ok [11, 13, 14, 15] ?_ | refine dR E_ok [7, 8, 9, 10, 12, 13, 14, 15] ?_ | refine dR E_ok [6, 7, 8, 9, 10, 13, 14, 15] ?_ | refine dR E_ok [7, 8, 9, 10, 13, 14, 15] ?_ | refine dR E_ok [7, 8, 9, 10, 11, 13, 14, 15] ?_ | (refine hR _ _ ?_; refine sA ?_) | refine wA E_ok ?_ | exact trivial | contradiction)) <;> (first | omega | (exact MT_mk (true, _, _) trivial) | (exact MT_mk (false, _, _) trivial) | skip)
  rintro ⟨bb, g1, g2⟩ -
  simp only [keepS, lkp, push_cast, simprocAttr]
  clear hP hC hF hFr hZ hr1 hr2 hr3
  cases bb
  all_goals (repeat' (first | (with_reducible intro hh; (first | subst hh | (revert hh; with_reducible intro _))) | with_reducible apply And.intro | refine eK E_ok ?_ | refine EC.use (cP) ?_ | refine EC.use (cC) ?_ | refine EC.use (cO) ?_ | refine EC.use (cE1) ?_ | refine EC.use (cR1) ?_ | refine EC.use (cE2) ?_ | refine EC.use (cR2) ?_ | refine EC.use (cS) ?_ | refine EC.use (cR3) ?_ | refine EC.use (cO2) ?_ | refine EC.use (cZ) ?_ | refine wA E_ok ?_ | exact trivial | contradiction)) <;> (first | (exact Lt.bool rfl) | (exfalso; simp_all; done) | (simp [hC1]; done) | skip)
end Go.Proofs.YtfmldmafigpblaaGreatDoor
end
