/- Part 11: KerV, KerX, KerY, KerZ. -/
import Derived.Test.YtfmldmafigpblaaGreatDoorU10
section
namespace Go.Proofs.YtfmldmafigpblaaGreatDoor
open Go.Lift
set_option linter.unusedSimpArgs false
set_option linter.unusedVariables false
set_option maxRecDepth 10000
set_option maxHeartbeats 1000000
section
variable {I D : Int → Prop} {L : Nat} {m : GStep}
theorem tbGet_ok {t : List GSlot} {i : Int} (h : ((tbGet t i).2 != 0) = false) : (tbGet t i).1 ∈ t ∧ 0 ≤ i ∧ i < t.length := by
  unfold tbGet at h ⊢
  split
  · rename_i g; rw [if_pos g] at h; simp at h
  · rename_i g
    have g' : 0 ≤ i ∧ i < t.length := by
      simp at g; omega
    exact ⟨getD_mem (by omega), g'⟩
theorem kpM.clear (hm : okM I D L m) {i : Int} : kpM I D L m { m with o := { m.o with Process := { m.o.Process with Table := (tbClear m.o.Process.Table i).1 } } } := ⟨hm.clear, rfl, rfl⟩
theorem kpM.setS (hm : okM I D L m) {n : Nat} {s : GSlot} (hs : slOk s = true) (h0 : s.Kind ≠ 0) (h1 : s.Kind ≠ 1) : kpM I D L m { m with o := { m.o with Process := { m.o.Process with Table := m.o.Process.Table.set n s } } } := ⟨hm.set hs h0 h1, rfl, rfl⟩
theorem cpM.trans {m1 m2 : GStep} {L1 L2 : Nat} (h1 : kpM I D L1 m m1) (h2 : cpM I D L2 m1 m2) : cpM I D L2 m m2 := by
  obtain ⟨D', h3, h4, h5, h6⟩ := h2
  exact ⟨D', h3, h4, h5.trans h1.2.1, h6.trans (by rw [h1.2.2])⟩
theorem slOk_chan {t e : Int} (h : t ≠ 0) (he : e = 0 ∨ e = 1) : slOk { (default : GSlot) with Kind := 4, Target := t, End := e } = true := by
  rcases he with rfl | rfl <;> simp [slOk, h] <;> rfl
theorem kpM.off (h : okM I D L m) {d n : Int} (hd : D d) : kpM I D (L + 1) m (putM m { (getS m.s d).1 with Offset := n }) := kpM.put h (h.off hd)
theorem cpM.target (hm : okM I D L m) {y : GObject} {e : Int} {L' : Nat} (hy : e = 0 → okO (jm I m) D y) (hl : L + 1 ≤ L') : cpM I D L' m (if e = 0 then putM m y else m) := by
  split
  · rename_i g; exact cpM.of (kpM.put hm (hy g)) hl
  · exact cpM.of (kpM.refl hm (Nat.le_refl _)) (by omega)
theorem ec_st_holdE (h : RowH) (m : GStep) (s : GSlot) (hl : m.s.Objects.length ≤ 1000000) : EC Tryz.prog 157 [.rptr 0 h 41 0 0, .agg s.c] [sRow h m] fun r N => ∃ x : Int × GStep, holdM m s = x.2 ∧ r = .int .i64 x.1 ∧ N = [sRow h x.2] :=
  (ec_st_hold h m s hl).mono fun r N ⟨x, h1, h2, h3⟩ => ⟨x, h1.symm, h2, h3⟩
attribute [push_cast] sl2 sl2t r2q r3q r2s r3o
attribute [local irreducible] EC EV getS putS remS putM cpM kpM takeM textM slotM semNew dropM tbGet tbClear holdM semDown semUp portCall portTake devDo
theorem ec_st_slots8 (h : RowH) (m : GStep) (a : GAction) (hn : a.Number = 8) (hm : okM I D L m) (hL : L ≤ 700000) : EC Tryz.prog 152 [.rptr 0 h 41 0 0, .agg a.c] [sRow h m] fun r N => ∃ x : (Int × Int) × GStep, cpM I D (L + 60) m x.2 ∧ r = .tup [.int .i64 x.1.1, .int .i64 x.1.2] ∧ N = [sRow h x.2] := by
  obtain ⟨ak, aa, ar, av, an, ag⟩ := a
  simp only at hn
  subst hn
  refine EC.finKE ?_
  (refine nW E_ok call_152 Tryz.func152 Tryz.ntmps152 Tryz.results152 ?_)
  have hl := hm.sl (by omega)
  have hfl := hm.fl
  have htl : m.o.Process.Table.length ≤ 1000000 := hm.ob.sm.1.2.2.2.2
  intro fr
  refine EV_meetW (σ := RowH) [0, 3, 4, 5] (fun s => [(6, .rptr 2 s 4 0 0), (7, .int .i64 (tbGet m.o.Process.Table ag.x0).2)]) (fun B s => B ++ [.row s 108 4 [(tbGet m.o.Process.Table ag.x0).1.c]]) (fun _ => True) ?_ ?_
  rotate_left 1
  · (repeat' (first | (with_reducible intro hh; (first | subst hh | (revert hh; with_reducible intro _))) | with_reducible apply And.intro | refine eK E_ok ?_ | refine EC.use (ec_ref10_Get m.o.Process.Table _ htl) ?_ | refine dM E_ok 9 [0, 1, 2, 3, 4, 5, 6, 7, 8, 9, 10, 11, 12, 13] [0, 1, 2, 3, 4, 6, 7] fol fun R hR => ?_ | refine ed3 E_ok 5 8 13 ?_ ?_ ?_ | refine ed2 E_ok 8 13 ?_ ?_ | refine ed2 E_ok 5 13 ?_ ?_ | refine ed2 E_ok 5 8 ?_ ?_ | refine ed2 E_ok 9 13 ?_ ?_ | refine ed1 E_ok 8 ?_ | refine ed1 E_ok 5 ?_ | refine dR E_ok [10, 11, 12, 13, 14, 15] ?_ | refine dR E_ok [9, 10, 11, 12, 14, 15] ?_ | refine dR E_ok [10, 11, 12, 14, 15] ?_ | (refine hR _ _ ?_; refine sA ?_) | refine wA E_ok ?_ | exact trivial | contradiction)) <;> (first | (exact MT_mk _ trivial) | skip)
  rintro h1 -
  simp only [keepS, lkp, push_cast, simprocAttr]
  have hg := @tbGet_ok m.o.Process.Table ag.x0
  generalize tbGet m.o.Process.Table ag.x0 = q at hg
  obtain ⟨s, e⟩ := q
  (repeat' (first | (with_reducible intro hh; (first | subst hh | (revert hh; with_reducible intro _))) | with_reducible apply And.intro | refine eK E_ok ?_ | refine wA E_ok ?_ | exact trivial | contradiction)) <;> (first | (exact ⟨((_, _), _), cpM.of (kpM.refl hm (Nat.le_refl _)) (by omega), Lk.t2 (FkA.int rfl) (FkA.int rfl), rfl⟩) | skip)
  rename_i he fr2
  obtain ⟨hsm, hx0⟩ := hg he
  replace hsm : s ∈ m.o.Process.Table := hsm
  have hd : s.Kind = 1 → D s.Description := hm.dsc hsm
  refine EV_loopW E_ok [0, 3, 4, 5, 6, 7, 56, 57] (fun i : Nat => [(58, .int .i64 i)]) (fun B _ => B) (fun i => i = 0) (fun i => 1 - i) 0 rfl ?_
  rintro i hi
  replace hi : i = 0 := hi
  subst hi
  simp only [Int.ofNat_zero, push_cast, simprocAttr]
  have hk := kpM.drop hm s
  refine EC.useAtX E_ok 0 (ec_st_drop h m s hl) rfl (by (repeat (first | exact LLe.nil | refine LLe.cons (SLe.refl _) ?_ | refine LLe.cons SLe.rptr ?_))) ?_
  generalize dropM m s = m1 at hk
  have hm1 := hk.ok
  have htl1 : m1.o.Process.Table.length ≤ 1000000 := hm1.ob.sm.1.2.2.2.2
  simp only [push_cast, simprocAttr]
  (repeat' (first | (with_reducible intro hh; (first | subst hh | (revert hh; with_reducible intro _))) | with_reducible apply And.intro | refine eK E_ok ?_ | refine EC.use (ec_ref10_Clear m1.o.Process.Table _ htl1) ?_ | refine dM E_ok 11 [0, 1, 2, 3, 4, 5, 6, 7, 8, 9, 10, 11, 12, 13] [0, 1, 2, 3, 4, 5, 7, 8] fol fun R hR => ?_ | refine ed2 E_ok 6 9 ?_ ?_ | refine ed1 E_ok 9 ?_ | refine ed1 E_ok 6 ?_ | refine dR E_ok [10, 11, 12, 13, 14, 15, 16, 17, 18] ?_ | refine dR E_ok [11, 12, 13, 14, 15, 16, 17, 18] ?_ | (refine hR _ _ ?_; refine sA ?_) | refine wA E_ok ?_ | exact trivial | contradiction)) <;> (first | (exact ⟨((_, _), { m1 with o := { m1.o with Process := { m1.o.Process with Table := (tbClear m1.o.Process.Table ag.x0).1 } } }), cpM.of (hk.trans (kpM.clear hm1)) (by omega), Lk.t2 (FkA.int rfl) (FkA.int rfl), rfl⟩) | skip)
theorem ec_st_slots9 (h : RowH) (m : GStep) (a : GAction) (hn : a.Number = 9) (hm : okM I D L m) (hL : L ≤ 700000) : EC Tryz.prog 152 [.rptr 0 h 41 0 0, .agg a.c] [sRow h m] fun r N => ∃ x : (Int × Int) × GStep, cpM I D (L + 60) m x.2 ∧ r = .tup [.int .i64 x.1.1, .int .i64 x.1.2] ∧ N = [sRow h x.2] := by
  obtain ⟨ak, aa, ar, av, an, ag⟩ := a
  simp only at hn
  subst hn
  refine EC.finKE ?_
  (refine nW E_ok call_152 Tryz.func152 Tryz.ntmps152 Tryz.results152 ?_)
  have hl := hm.sl (by omega)
  have hfl := hm.fl
  have htl : m.o.Process.Table.length ≤ 1000000 := hm.ob.sm.1.2.2.2.2
  intro fr
  refine EV_meetW (σ := RowH) [0, 3, 4, 5] (fun s => [(6, .rptr 2 s 4 0 0), (7, .int .i64 (tbGet m.o.Process.Table ag.x0).2)]) (fun B s => B ++ [.row s 108 4 [(tbGet m.o.Process.Table ag.x0).1.c]]) (fun _ => True) ?_ ?_
  rotate_left 1
  · (repeat' (first | (with_reducible intro hh; (first | subst hh | (revert hh; with_reducible intro _))) | with_reducible apply And.intro | refine eK E_ok ?_ | refine EC.use (ec_ref10_Get m.o.Process.Table _ htl) ?_ | refine dM E_ok 9 [0, 1, 2, 3, 4, 5, 6, 7, 8, 9, 10, 11, 12, 13] [0, 1, 2, 3, 4, 6, 7] fol fun R hR => ?_ | refine ed3 E_ok 5 8 13 ?_ ?_ ?_ | refine ed2 E_ok 8 13 ?_ ?_ | refine ed2 E_ok 5 13 ?_ ?_ | refine ed2 E_ok 5 8 ?_ ?_ | refine ed2 E_ok 9 13 ?_ ?_ | refine ed1 E_ok 8 ?_ | refine ed1 E_ok 5 ?_ | refine dR E_ok [10, 11, 12, 13, 14, 15] ?_ | refine dR E_ok [9, 10, 11, 12, 14, 15] ?_ | refine dR E_ok [10, 11, 12, 14, 15] ?_ | (refine hR _ _ ?_; refine sA ?_) | refine wA E_ok ?_ | exact trivial | contradiction)) <;> (first | (exact MT_mk _ trivial) | skip)
  rintro h1 -
  simp only [keepS, lkp, push_cast, simprocAttr]
  have hg := @tbGet_ok m.o.Process.Table ag.x0
  generalize tbGet m.o.Process.Table ag.x0 = q at hg
  obtain ⟨s, e⟩ := q
  (repeat' (first | (with_reducible intro hh; (first | subst hh | (revert hh; with_reducible intro _))) | with_reducible apply And.intro | refine eK E_ok ?_ | refine wA E_ok ?_ | exact trivial | contradiction)) <;> (first | (exact ⟨((_, _), _), cpM.of (kpM.refl hm (Nat.le_refl _)) (by omega), Lk.t2 (FkA.int rfl) (FkA.int rfl), rfl⟩) | skip)
  rename_i he fr2
  obtain ⟨hsm, hx0⟩ := hg he
  replace hsm : s ∈ m.o.Process.Table := hsm
  have hd : s.Kind = 1 → D s.Description := hm.dsc hsm
  refine EV_loopW E_ok [0, 3, 4, 5, 6, 7, 56, 57] (fun i : Nat => [(58, .int .i64 i)]) (fun B _ => B) (fun i => i = 0) (fun i => 1 - i) 0 rfl ?_
  rintro i hi
  replace hi : i = 0 := hi
  subst hi
  simp only [Int.ofNat_zero, push_cast, simprocAttr]
  (repeat' (first | (with_reducible intro hh; (first | subst hh | (revert hh; with_reducible intro _))) | with_reducible apply And.intro | refine eK E_ok ?_ | (refine aE 0 (ec_st_read h m s hm (by omega) hd) rfl ?_; rintro ⟨_, _, _⟩ _) | refine wA E_ok ?_ | exact trivial | contradiction)) <;> (first | (refine ⟨((_, _), _), ?_, Lk.t2 (FkA.int rfl) (FkA.int rfl), rfl⟩; exact cpM.of ‹kpM I D (L + 1) m _› (by omega)) | skip)
theorem ec_st_slots10 (h : RowH) (m : GStep) (a : GAction) (hn : a.Number = 10) (hm : okM I D L m) (hL : L ≤ 700000) : EC Tryz.prog 152 [.rptr 0 h 41 0 0, .agg a.c] [sRow h m] fun r N => ∃ x : (Int × Int) × GStep, cpM I D (L + 60) m x.2 ∧ r = .tup [.int .i64 x.1.1, .int .i64 x.1.2] ∧ N = [sRow h x.2] := by
  obtain ⟨ak, aa, ar, av, an, ag⟩ := a
  simp only at hn
  subst hn
  refine EC.finKE ?_
  (refine nW E_ok call_152 Tryz.func152 Tryz.ntmps152 Tryz.results152 ?_)
  have hl := hm.sl (by omega)
  have hfl := hm.fl
  have htl : m.o.Process.Table.length ≤ 1000000 := hm.ob.sm.1.2.2.2.2
  intro fr
  refine EV_meetW (σ := RowH) [0, 3, 4, 5] (fun s => [(6, .rptr 2 s 4 0 0), (7, .int .i64 (tbGet m.o.Process.Table ag.x0).2)]) (fun B s => B ++ [.row s 108 4 [(tbGet m.o.Process.Table ag.x0).1.c]]) (fun _ => True) ?_ ?_
  rotate_left 1
  · (repeat' (first | (with_reducible intro hh; (first | subst hh | (revert hh; with_reducible intro _))) | with_reducible apply And.intro | refine eK E_ok ?_ | refine EC.use (ec_ref10_Get m.o.Process.Table _ htl) ?_ | refine dM E_ok 9 [0, 1, 2, 3, 4, 5, 6, 7, 8, 9, 10, 11, 12, 13] [0, 1, 2, 3, 4, 6, 7] fol fun R hR => ?_ | refine ed3 E_ok 5 8 13 ?_ ?_ ?_ | refine ed2 E_ok 8 13 ?_ ?_ | refine ed2 E_ok 5 13 ?_ ?_ | refine ed2 E_ok 5 8 ?_ ?_ | refine ed2 E_ok 9 13 ?_ ?_ | refine ed1 E_ok 8 ?_ | refine ed1 E_ok 5 ?_ | refine dR E_ok [10, 11, 12, 13, 14, 15] ?_ | refine dR E_ok [9, 10, 11, 12, 14, 15] ?_ | refine dR E_ok [10, 11, 12, 14, 15] ?_ | (refine hR _ _ ?_; refine sA ?_) | refine wA E_ok ?_ | exact trivial | contradiction)) <;> (first | (exact MT_mk _ trivial) | skip)
  rintro h1 -
  simp only [keepS, lkp, push_cast, simprocAttr]
  have hg := @tbGet_ok m.o.Process.Table ag.x0
  generalize tbGet m.o.Process.Table ag.x0 = q at hg
  obtain ⟨s, e⟩ := q
  (repeat' (first | (with_reducible intro hh; (first | subst hh | (revert hh; with_reducible intro _))) | with_reducible apply And.intro | refine eK E_ok ?_ | refine wA E_ok ?_ | exact trivial | contradiction)) <;> (first | (exact ⟨((_, _), _), cpM.of (kpM.refl hm (Nat.le_refl _)) (by omega), Lk.t2 (FkA.int rfl) (FkA.int rfl), rfl⟩) | skip)
  rename_i he fr2
  obtain ⟨hsm, hx0⟩ := hg he
  replace hsm : s ∈ m.o.Process.Table := hsm
  have hd : s.Kind = 1 → D s.Description := hm.dsc hsm
  refine EV_loopW E_ok [0, 3, 4, 5, 6, 7, 56, 57] (fun i : Nat => [(58, .int .i64 i)]) (fun B _ => B) (fun i => i = 0) (fun i => 1 - i) 0 rfl ?_
  rintro i hi
  replace hi : i = 0 := hi
  subst hi
  simp only [Int.ofNat_zero, push_cast, simprocAttr]
  (repeat' (first | (with_reducible intro hh; (first | subst hh | (revert hh; with_reducible intro _))) | with_reducible apply And.intro | refine eK E_ok ?_ | (refine aE 0 (ec_st_write h m s _ hm (by omega) hd) rfl ?_; rintro ⟨_, _, _⟩ _) | refine wA E_ok ?_ | exact trivial | contradiction)) <;> (first | (refine ⟨((_, _), _), ?_, Lk.t2 (FkA.int rfl) (FkA.int rfl), rfl⟩; exact cpM.of ‹kpM I D (L + 2) m _› (by omega)) | skip)
theorem ec_st_slots11 (h : RowH) (m : GStep) (a : GAction) (hn : a.Number = 11) (hm : okM I D L m) (hL : L ≤ 700000) : EC Tryz.prog 152 [.rptr 0 h 41 0 0, .agg a.c] [sRow h m] fun r N => ∃ x : (Int × Int) × GStep, cpM I D (L + 60) m x.2 ∧ r = .tup [.int .i64 x.1.1, .int .i64 x.1.2] ∧ N = [sRow h x.2] := by
  obtain ⟨ak, aa, ar, av, an, ag⟩ := a
  simp only at hn
  subst hn
  refine EC.finKE ?_
  (refine nW E_ok call_152 Tryz.func152 Tryz.ntmps152 Tryz.results152 ?_)
  have hl := hm.sl (by omega)
  have hfl := hm.fl
  have htl : m.o.Process.Table.length ≤ 1000000 := hm.ob.sm.1.2.2.2.2
  intro fr
  refine EV_meetW (σ := RowH) [0, 3, 4, 5] (fun s => [(6, .rptr 2 s 4 0 0), (7, .int .i64 (tbGet m.o.Process.Table ag.x0).2)]) (fun B s => B ++ [.row s 108 4 [(tbGet m.o.Process.Table ag.x0).1.c]]) (fun _ => True) ?_ ?_
  rotate_left 1
  · (repeat' (first | (with_reducible intro hh; (first | subst hh | (revert hh; with_reducible intro _))) | with_reducible apply And.intro | refine eK E_ok ?_ | refine EC.use (ec_ref10_Get m.o.Process.Table _ htl) ?_ | refine dM E_ok 9 [0, 1, 2, 3, 4, 5, 6, 7, 8, 9, 10, 11, 12, 13] [0, 1, 2, 3, 4, 6, 7] fol fun R hR => ?_ | refine ed3 E_ok 5 8 13 ?_ ?_ ?_ | refine ed2 E_ok 8 13 ?_ ?_ | refine ed2 E_ok 5 13 ?_ ?_ | refine ed2 E_ok 5 8 ?_ ?_ | refine ed2 E_ok 9 13 ?_ ?_ | refine ed1 E_ok 8 ?_ | refine ed1 E_ok 5 ?_ | refine dR E_ok [10, 11, 12, 13, 14, 15] ?_ | refine dR E_ok [9, 10, 11, 12, 14, 15] ?_ | refine dR E_ok [10, 11, 12, 14, 15] ?_ | (refine hR _ _ ?_; refine sA ?_) | refine wA E_ok ?_ | exact trivial | contradiction)) <;> (first | (exact MT_mk _ trivial) | skip)
  rintro h1 -
  simp only [keepS, lkp, push_cast, simprocAttr]
  have hg := @tbGet_ok m.o.Process.Table ag.x0
  generalize tbGet m.o.Process.Table ag.x0 = q at hg
  obtain ⟨s, e⟩ := q
  (repeat' (first | (with_reducible intro hh; (first | subst hh | (revert hh; with_reducible intro _))) | with_reducible apply And.intro | refine eK E_ok ?_ | refine wA E_ok ?_ | exact trivial | contradiction)) <;> (first | (exact ⟨((_, _), _), cpM.of (kpM.refl hm (Nat.le_refl _)) (by omega), Lk.t2 (FkA.int rfl) (FkA.int rfl), rfl⟩) | skip)
  rename_i he fr3 fr2
  obtain ⟨hsm, hx0⟩ := hg he
  replace hsm : s ∈ m.o.Process.Table := hsm
  have hd : s.Kind = 1 → D s.Description := hm.dsc hsm
  refine EV_loopW E_ok [0, 3, 4, 5, 6, 7, 56, 57] (fun i : Nat => [(58, .int .i64 i)]) (fun B _ => B) (fun i => i ≤ 1 ∧ (i = 1 → s.Kind = 1)) (fun i => 1 - i) 0 ⟨Nat.zero_le _, by simp⟩ ?_
  rintro i ⟨hi, hk1⟩
  replace hi : i ≤ 1 := hi
  have hcase : i = 0 ∨ i = 1 := by omega
  rcases hcase with rfl | rfl
  · simp only [Int.ofNat_zero, push_cast, simprocAttr]
    (repeat' (first | (with_reducible intro hh; (first | subst hh | (revert hh; with_reducible intro _))) | with_reducible apply And.intro | refine eK E_ok ?_ | refine wA E_ok ?_ | exact trivial | contradiction)) <;> (first | (exact ⟨((0, _), _), cpM.of (kpM.refl hm (Nat.le_refl _)) (by omega), Lk.t2 (FkA.int rfl) (FkA.int rfl), rfl⟩) | skip)
    rename_i hkk
    exact NX_mk 1 ⟨Nat.le_refl _, fun _ => by simpa using hkk⟩
  replace hk1 := hk1 rfl
  clear hi
  simp only [Int.ofNat_one, push_cast, simprocAttr]
  (repeat' (first | (with_reducible intro hh; (first | subst hh | (revert hh; with_reducible intro _))) | with_reducible apply And.intro | refine eK E_ok ?_ | refine aX 0 (ec_st_get h m _ hl) rfl ?_ | refine aX 0 (ec_st_put h m _ hl) rfl ?_ | refine wA E_ok ?_ | exact trivial | contradiction)) <;> (first | (exact ⟨((0, _), _), cpM.of (kpM.refl hm (Nat.le_refl _)) (by omega), Lk.t2 (FkA.int rfl) (FkA.int rfl), rfl⟩) | (exact ⟨((0, _), _), cpM.of (kpM.off hm (hd hk1)) (by omega), Lk.t2 (FkA.int rfl) (FkA.int rfl), rfl⟩) | skip)
theorem ec_st_slots12 (h : RowH) (m : GStep) (a : GAction) (hn : a.Number = 12) (hm : okM I D L m) (hL : L ≤ 700000) : EC Tryz.prog 152 [.rptr 0 h 41 0 0, .agg a.c] [sRow h m] fun r N => ∃ x : (Int × Int) × GStep, cpM I D (L + 60) m x.2 ∧ r = .tup [.int .i64 x.1.1, .int .i64 x.1.2] ∧ N = [sRow h x.2] := by
  obtain ⟨ak, aa, ar, av, an, ag⟩ := a
  simp only at hn
  subst hn
  refine EC.finKE ?_
  (refine nW E_ok call_152 Tryz.func152 Tryz.ntmps152 Tryz.results152 ?_)
  have hl := hm.sl (by omega)
  have hfl := hm.fl
  have htl : m.o.Process.Table.length ≤ 1000000 := hm.ob.sm.1.2.2.2.2
  intro fr
  refine EV_meetW (σ := RowH) [0, 3, 4, 5] (fun s => [(6, .rptr 2 s 4 0 0), (7, .int .i64 (tbGet m.o.Process.Table ag.x0).2)]) (fun B s => B ++ [.row s 108 4 [(tbGet m.o.Process.Table ag.x0).1.c]]) (fun _ => True) ?_ ?_
  rotate_left 1
  · (repeat' (first | (with_reducible intro hh; (first | subst hh | (revert hh; with_reducible intro _))) | with_reducible apply And.intro | refine eK E_ok ?_ | refine EC.use (ec_ref10_Get m.o.Process.Table _ htl) ?_ | refine dM E_ok 9 [0, 1, 2, 3, 4, 5, 6, 7, 8, 9, 10, 11, 12, 13] [0, 1, 2, 3, 4, 6, 7] fol fun R hR => ?_ | refine ed3 E_ok 5 8 13 ?_ ?_ ?_ | refine ed2 E_ok 8 13 ?_ ?_ | refine ed2 E_ok 5 13 ?_ ?_ | refine ed2 E_ok 5 8 ?_ ?_ | refine ed2 E_ok 9 13 ?_ ?_ | refine ed1 E_ok 8 ?_ | refine ed1 E_ok 5 ?_ | refine dR E_ok [10, 11, 12, 13, 14, 15] ?_ | refine dR E_ok [9, 10, 11, 12, 14, 15] ?_ | refine dR E_ok [10, 11, 12, 14, 15] ?_ | (refine hR _ _ ?_; refine sA ?_) | refine wA E_ok ?_ | exact trivial | contradiction)) <;> (first | (exact MT_mk _ trivial) | skip)
  rintro h1 -
  simp only [keepS, lkp, push_cast, simprocAttr]
  have hg := @tbGet_ok m.o.Process.Table ag.x0
  generalize tbGet m.o.Process.Table ag.x0 = q at hg
  obtain ⟨s, e⟩ := q
  (repeat' (first | (with_reducible intro hh; (first | subst hh | (revert hh; with_reducible intro _))) | with_reducible apply And.intro | refine eK E_ok ?_ | refine wA E_ok ?_ | exact trivial | contradiction)) <;> (first | (exact ⟨((_, _), _), cpM.of (kpM.refl hm (Nat.le_refl _)) (by omega), Lk.t2 (FkA.int rfl) (FkA.int rfl), rfl⟩) | skip)
  rename_i he fr2
  obtain ⟨hsm, hx0⟩ := hg he
  replace hsm : s ∈ m.o.Process.Table := hsm
  have hd : s.Kind = 1 → D s.Description := hm.dsc hsm
  refine EV_loopW E_ok [0, 3, 4, 5, 6, 7, 56, 57] (fun i : Nat => [(58, .int .i64 i)]) (fun B _ => B) (fun i => i = 0) (fun i => 1 - i) 0 rfl ?_
  rintro i hi
  replace hi : i = 0 := hi
  subst hi
  simp only [Int.ofNat_zero, push_cast, simprocAttr]
  have hk := kpM.hold hm s
  have hm1 := hk.ok
  have htl1 : (holdM m s).o.Process.Table.length ≤ 1000000 := hm1.ob.sm.1.2.2.2.2
  have ho : (holdM m s).o = m.o := (holdM_same m s).1
  (repeat' (first | (with_reducible intro hh; (first | subst hh | (revert hh; with_reducible intro _))) | with_reducible apply And.intro | refine eK E_ok ?_ | (refine aE 0 (ec_st_roomE h m _ htl) rfl ?_; rintro ⟨_, _⟩ rfl) | (refine aE 0 (ec_st_holdE h m s hl) rfl ?_; rintro ⟨_, _⟩ rfl) | (refine aE 0 (ec_st_slotE h (holdM m s) s htl1) rfl ?_; rintro ⟨_, _⟩ rfl) | refine wA E_ok ?_ | exact trivial | contradiction)) <;> (first | (exact ⟨((0, _), _), cpM.of (kpM.refl hm (Nat.le_refl _)) (by omega), Lk.t2 (FkA.int rfl) (FkA.int rfl), rfl⟩) | (exact ⟨((0, _), _), cpM.of hk (by omega), Lk.t2 (FkA.int rfl) (FkA.int rfl), rfl⟩) | (exact ⟨((_, _), _), cpM.of (hk.trans (kpM.slot hm1 hd)) (by omega), Lk.t2 (FkA.int rfl) (FkA.int rfl), rfl⟩) | skip)
theorem ec_st_slots14 (h : RowH) (m : GStep) (a : GAction) (hn : a.Number = 14) (hm : okM I D L m) (hL : L ≤ 700000) : EC Tryz.prog 152 [.rptr 0 h 41 0 0, .agg a.c] [sRow h m] fun r N => ∃ x : (Int × Int) × GStep, cpM I D (L + 60) m x.2 ∧ r = .tup [.int .i64 x.1.1, .int .i64 x.1.2] ∧ N = [sRow h x.2] := by
  obtain ⟨ak, aa, ar, av, an, ag⟩ := a
  simp only at hn
  subst hn
  refine EC.finKE ?_
  (refine nW E_ok call_152 Tryz.func152 Tryz.ntmps152 Tryz.results152 ?_)
  have hl := hm.sl (by omega)
  have hfl := hm.fl
  have htl : m.o.Process.Table.length ≤ 1000000 := hm.ob.sm.1.2.2.2.2
  intro fr
  refine EV_meetW (σ := RowH) [0, 3, 4, 5] (fun s => [(6, .rptr 2 s 4 0 0), (7, .int .i64 (tbGet m.o.Process.Table ag.x0).2)]) (fun B s => B ++ [.row s 108 4 [(tbGet m.o.Process.Table ag.x0).1.c]]) (fun _ => True) ?_ ?_
  rotate_left 1
  · (repeat' (first | (with_reducible intro hh; (first | subst hh | (revert hh; with_reducible intro _))) | with_reducible apply And.intro | refine eK E_ok ?_ | refine EC.use (ec_ref10_Get m.o.Process.Table _ htl) ?_ | refine dM E_ok 9 [0, 1, 2, 3, 4, 5, 6, 7, 8, 9, 10, 11, 12, 13] [0, 1, 2, 3, 4, 6, 7] fol fun R hR => ?_ | refine ed3 E_ok 5 8 13 ?_ ?_ ?_ | refine ed2 E_ok 8 13 ?_ ?_ | refine ed2 E_ok 5 13 ?_ ?_ | refine ed2 E_ok 5 8 ?_ ?_ | refine ed2 E_ok 9 13 ?_ ?_ | refine ed1 E_ok 8 ?_ | refine ed1 E_ok 5 ?_ | refine dR E_ok [10, 11, 12, 13, 14, 15] ?_ | refine dR E_ok [9, 10, 11, 12, 14, 15] ?_ | refine dR E_ok [10, 11, 12, 14, 15] ?_ | (refine hR _ _ ?_; refine sA ?_) | refine wA E_ok ?_ | exact trivial | contradiction)) <;> (first | (exact MT_mk _ trivial) | skip)
  rintro h1 -
  simp only [keepS, lkp, push_cast, simprocAttr]
  have hg := @tbGet_ok m.o.Process.Table ag.x0
  generalize tbGet m.o.Process.Table ag.x0 = q at hg
  obtain ⟨s, e⟩ := q
  (repeat' (first | (with_reducible intro hh; (first | subst hh | (revert hh; with_reducible intro _))) | with_reducible apply And.intro | refine eK E_ok ?_ | refine wA E_ok ?_ | exact trivial | contradiction)) <;> (first | (exact ⟨((_, _), _), cpM.of (kpM.refl hm (Nat.le_refl _)) (by omega), Lk.t2 (FkA.int rfl) (FkA.int rfl), rfl⟩) | skip)
  rename_i he fr3 fr2
  obtain ⟨hsm, hx0⟩ := hg he
  replace hsm : s ∈ m.o.Process.Table := hsm
  have hd : s.Kind = 1 → D s.Description := hm.dsc hsm
  refine EV_loopW E_ok [0, 3, 4, 5, 6, 7, 56, 57] (fun i : Nat => [(58, .int .i64 i)]) (fun B _ => B) (fun i => i ≤ 1 ∧ (i = 1 → s.Kind = 7)) (fun i => 1 - i) 0 ⟨Nat.zero_le _, by simp⟩ ?_
  rintro i ⟨hi, hk1⟩
  replace hi : i ≤ 1 := hi
  have hcase : i = 0 ∨ i = 1 := by omega
  rcases hcase with rfl | rfl
  · simp only [Int.ofNat_zero, push_cast, simprocAttr]
    (repeat' (first | (with_reducible intro hh; (first | subst hh | (revert hh; with_reducible intro _))) | with_reducible apply And.intro | refine eK E_ok ?_ | refine wA E_ok ?_ | exact trivial | contradiction)) <;> (first | (exact ⟨((0, _), _), cpM.of (kpM.refl hm (Nat.le_refl _)) (by omega), Lk.t2 (FkA.int rfl) (FkA.int rfl), rfl⟩) | skip)
    rename_i hkk
    exact NX_mk 1 ⟨Nat.le_refl _, fun _ => by simpa using hkk⟩
  replace hk1 := hk1 rfl
  clear hi
  simp only [Int.ofNat_one, push_cast, simprocAttr]
  (repeat' (first | (with_reducible intro hh; (first | subst hh | (revert hh; with_reducible intro _))) | with_reducible apply And.intro | refine eK E_ok ?_ | refine aX 0 (ec_st_get h m _ hl) rfl ?_ | refine EC.use (ec_ref13_Down _) ?_ | refine aX 0 (ec_st_target h m _ _ hl) rfl ?_ | refine wA E_ok ?_ | exact trivial | contradiction)) <;> (first | (exact ⟨((0, _), _), cpM.target hm (okO_semDown (hm.get _)) (by omega), Lk.t2 (FkA.int rfl) (FkA.int rfl), rfl⟩) | skip)
theorem ec_st_slots15 (h : RowH) (m : GStep) (a : GAction) (hn : a.Number = 15) (hm : okM I D L m) (hL : L ≤ 700000) : EC Tryz.prog 152 [.rptr 0 h 41 0 0, .agg a.c] [sRow h m] fun r N => ∃ x : (Int × Int) × GStep, cpM I D (L + 60) m x.2 ∧ r = .tup [.int .i64 x.1.1, .int .i64 x.1.2] ∧ N = [sRow h x.2] := by
  obtain ⟨ak, aa, ar, av, an, ag⟩ := a
  simp only at hn
  subst hn
  refine EC.finKE ?_
  (refine nW E_ok call_152 Tryz.func152 Tryz.ntmps152 Tryz.results152 ?_)
  have hl := hm.sl (by omega)
  have hfl := hm.fl
  have htl : m.o.Process.Table.length ≤ 1000000 := hm.ob.sm.1.2.2.2.2
  intro fr
  refine EV_meetW (σ := RowH) [0, 3, 4, 5] (fun s => [(6, .rptr 2 s 4 0 0), (7, .int .i64 (tbGet m.o.Process.Table ag.x0).2)]) (fun B s => B ++ [.row s 108 4 [(tbGet m.o.Process.Table ag.x0).1.c]]) (fun _ => True) ?_ ?_
  rotate_left 1
  · (repeat' (first | (with_reducible intro hh; (first | subst hh | (revert hh; with_reducible intro _))) | with_reducible apply And.intro | refine eK E_ok ?_ | refine EC.use (ec_ref10_Get m.o.Process.Table _ htl) ?_ | refine dM E_ok 9 [0, 1, 2, 3, 4, 5, 6, 7, 8, 9, 10, 11, 12, 13] [0, 1, 2, 3, 4, 6, 7] fol fun R hR => ?_ | refine ed3 E_ok 5 8 13 ?_ ?_ ?_ | refine ed2 E_ok 8 13 ?_ ?_ | refine ed2 E_ok 5 13 ?_ ?_ | refine ed2 E_ok 5 8 ?_ ?_ | refine ed2 E_ok 9 13 ?_ ?_ | refine ed1 E_ok 8 ?_ | refine ed1 E_ok 5 ?_ | refine dR E_ok [10, 11, 12, 13, 14, 15] ?_ | refine dR E_ok [9, 10, 11, 12, 14, 15] ?_ | refine dR E_ok [10, 11, 12, 14, 15] ?_ | (refine hR _ _ ?_; refine sA ?_) | refine wA E_ok ?_ | exact trivial | contradiction)) <;> (first | (exact MT_mk _ trivial) | skip)
  rintro h1 -
  simp only [keepS, lkp, push_cast, simprocAttr]
  have hg := @tbGet_ok m.o.Process.Table ag.x0
  generalize tbGet m.o.Process.Table ag.x0 = q at hg
  obtain ⟨s, e⟩ := q
  (repeat' (first | (with_reducible intro hh; (first | subst hh | (revert hh; with_reducible intro _))) | with_reducible apply And.intro | refine eK E_ok ?_ | refine wA E_ok ?_ | exact trivial | contradiction)) <;> (first | (exact ⟨((_, _), _), cpM.of (kpM.refl hm (Nat.le_refl _)) (by omega), Lk.t2 (FkA.int rfl) (FkA.int rfl), rfl⟩) | skip)
  rename_i he fr3 fr2
  obtain ⟨hsm, hx0⟩ := hg he
  replace hsm : s ∈ m.o.Process.Table := hsm
  have hd : s.Kind = 1 → D s.Description := hm.dsc hsm
  refine EV_loopW E_ok [0, 3, 4, 5, 6, 7, 56, 57] (fun i : Nat => [(58, .int .i64 i)]) (fun B _ => B) (fun i => i ≤ 1 ∧ (i = 1 → s.Kind = 7)) (fun i => 1 - i) 0 ⟨Nat.zero_le _, by simp⟩ ?_
  rintro i ⟨hi, hk1⟩
  replace hi : i ≤ 1 := hi
  have hcase : i = 0 ∨ i = 1 := by omega
  rcases hcase with rfl | rfl
  · simp only [Int.ofNat_zero, push_cast, simprocAttr]
    (repeat' (first | (with_reducible intro hh; (first | subst hh | (revert hh; with_reducible intro _))) | with_reducible apply And.intro | refine eK E_ok ?_ | refine wA E_ok ?_ | exact trivial | contradiction)) <;> (first | (exact ⟨((0, _), _), cpM.of (kpM.refl hm (Nat.le_refl _)) (by omega), Lk.t2 (FkA.int rfl) (FkA.int rfl), rfl⟩) | skip)
    rename_i hkk
    exact NX_mk 1 ⟨Nat.le_refl _, fun _ => by simpa using hkk⟩
  replace hk1 := hk1 rfl
  clear hi
  simp only [Int.ofNat_one, push_cast, simprocAttr]
  (repeat' (first | (with_reducible intro hh; (first | subst hh | (revert hh; with_reducible intro _))) | with_reducible apply And.intro | refine eK E_ok ?_ | refine aX 0 (ec_st_get h m _ hl) rfl ?_ | refine EC.use (ec_ref13_Up _) ?_ | refine aX 0 (ec_st_target h m _ _ hl) rfl ?_ | refine wA E_ok ?_ | exact trivial | contradiction)) <;> (first | (exact ⟨((0, _), _), cpM.target hm (okO_semUp (hm.get _)) (by omega), Lk.t2 (FkA.int rfl) (FkA.int rfl), rfl⟩) | skip)
theorem ec_st_slots18 (h : RowH) (m : GStep) (a : GAction) (hn : a.Number = 18) (hm : okM I D L m) (hL : L ≤ 700000) (hu : m.out.Used = 0) (hf : 1 ≤ m.fresh.length) : EC Tryz.prog 152 [.rptr 0 h 41 0 0, .agg a.c] [sRow h m] fun r N => ∃ x : (Int × Int) × GStep, cpM I D (L + 60) m x.2 ∧ r = .tup [.int .i64 x.1.1, .int .i64 x.1.2] ∧ N = [sRow h x.2] := by
  obtain ⟨ak, aa, ar, av, an, ag⟩ := a
  simp only at hn
  subst hn
  refine EC.finKE ?_
  (refine nW E_ok call_152 Tryz.func152 Tryz.ntmps152 Tryz.results152 ?_)
  have hl := hm.sl (by omega)
  have hfl := hm.fl
  have htl : m.o.Process.Table.length ≤ 1000000 := hm.ob.sm.1.2.2.2.2
  intro fr
  refine EV_meetW (σ := RowH) [0, 3, 4, 5] (fun s => [(6, .rptr 2 s 4 0 0), (7, .int .i64 (tbGet m.o.Process.Table ag.x0).2)]) (fun B s => B ++ [.row s 108 4 [(tbGet m.o.Process.Table ag.x0).1.c]]) (fun _ => True) ?_ ?_
  rotate_left 1
  · (repeat' (first | (with_reducible intro hh; (first | subst hh | (revert hh; with_reducible intro _))) | with_reducible apply And.intro | refine eK E_ok ?_ | refine EC.use (ec_ref10_Get m.o.Process.Table _ htl) ?_ | refine dM E_ok 9 [0, 1, 2, 3, 4, 5, 6, 7, 8, 9, 10, 11, 12, 13] [0, 1, 2, 3, 4, 6, 7] fol fun R hR => ?_ | refine ed3 E_ok 5 8 13 ?_ ?_ ?_ | refine ed2 E_ok 8 13 ?_ ?_ | refine ed2 E_ok 5 13 ?_ ?_ | refine ed2 E_ok 5 8 ?_ ?_ | refine ed2 E_ok 9 13 ?_ ?_ | refine ed1 E_ok 8 ?_ | refine ed1 E_ok 5 ?_ | refine dR E_ok [10, 11, 12, 13, 14, 15] ?_ | refine dR E_ok [9, 10, 11, 12, 14, 15] ?_ | refine dR E_ok [10, 11, 12, 14, 15] ?_ | (refine hR _ _ ?_; refine sA ?_) | refine wA E_ok ?_ | exact trivial | contradiction)) <;> (first | (exact MT_mk _ trivial) | skip)
  rintro h1 -
  simp only [keepS, lkp, push_cast, simprocAttr]
  have hg := @tbGet_ok m.o.Process.Table ag.x0
  generalize tbGet m.o.Process.Table ag.x0 = q at hg
  obtain ⟨s, e⟩ := q
  (repeat' (first | (with_reducible intro hh; (first | subst hh | (revert hh; with_reducible intro _))) | with_reducible apply And.intro | refine eK E_ok ?_ | refine wA E_ok ?_ | exact trivial | contradiction)) <;> (first | (exact ⟨((_, _), _), cpM.of (kpM.refl hm (Nat.le_refl _)) (by omega), Lk.t2 (FkA.int rfl) (FkA.int rfl), rfl⟩) | skip)
  rename_i he fr3 fr2
  obtain ⟨hsm, hx0⟩ := hg he
  replace hsm : s ∈ m.o.Process.Table := hsm
  have hd : s.Kind = 1 → D s.Description := hm.dsc hsm
  refine EV_loopW E_ok [0, 3, 4, 5, 6, 7, 56, 57] (fun i : Nat => [(58, .int .i64 i)]) (fun B _ => B) (fun i => i ≤ 1 ∧ (i = 1 → s.Kind = 6)) (fun i => 1 - i) 0 ⟨Nat.zero_le _, by simp⟩ ?_
  rintro i ⟨hi, hk1⟩
  replace hi : i ≤ 1 := hi
  have hcase : i = 0 ∨ i = 1 := by omega
  rcases hcase with rfl | rfl
  · simp only [Int.ofNat_zero, push_cast, simprocAttr]
    (repeat' (first | (with_reducible intro hh; (first | subst hh | (revert hh; with_reducible intro _))) | with_reducible apply And.intro | refine eK E_ok ?_ | refine wA E_ok ?_ | exact trivial | contradiction)) <;> (first | (exact ⟨((0, _), _), cpM.of (kpM.refl hm (Nat.le_refl _)) (by omega), Lk.t2 (FkA.int rfl) (FkA.int rfl), rfl⟩) | skip)
    rename_i hkk
    exact NX_mk 1 ⟨Nat.le_refl _, fun _ => by simpa using hkk⟩
  replace hk1 := hk1 rfl
  clear hi
  simp only [Int.ofNat_one, push_cast, simprocAttr]
  have hu1 : m.out.Used < m.fresh.length := by omega
  have htk := hm.take hu1
  have hid := hm.taken hu1
  have hnz := hm.takenz hu1
  (repeat' (first | (with_reducible intro hh; (first | subst hh | (revert hh; with_reducible intro _))) | with_reducible apply And.intro | refine eK E_ok ?_ | refine aX 0 (ec_st_take h m ⟨by omega, hu1⟩ (by omega)) rfl ?_ | refine EC.use (ec_ref12_New _) ?_ | refine wA E_ok ?_ | exact trivial | contradiction))
  generalize m.fresh.getD m.out.Used.toNat default = id at hid hnz
  rename_i fr4
  have hlt := htk.sl (by omega)
  have hpc := @okO_portCall (jm I (takeM m)) D (getS (takeM m).s s.Target).1 id (htk.get _)
  have hpe := ec_ref12_Call (getS (takeM m).s s.Target).1 id (htk.get _).sm
  generalize portCall (getS (takeM m).s s.Target).1 id = pc at hpc hpe
  obtain ⟨po, pe⟩ := pc
  refine EV_meetW (σ := RowH) [0, 3, 4, 5, 6, 13] (fun s => [(14, .rptr 6 s 36 0 0), (15, .int .i64 pe)]) (fun B s => B ++ [.row s 41 36 [po.c]]) (fun _ => True) ?_ ?_
  rotate_left 1
  · (repeat' (first | (with_reducible intro hh; (first | subst hh | (revert hh; with_reducible intro _))) | with_reducible apply And.intro | refine eK E_ok ?_ | refine aX 0 (ec_st_get h (takeM m) _ hlt) rfl ?_ | refine EC.use (hpe) ?_ | refine dM E_ok 8 [0] [0, 1, 2, 4, 5] fol fun R hR => ?_ | refine ed2 E_ok 3 10 ?_ ?_ | refine ed2 E_ok 6 10 ?_ ?_ | refine dR E_ok [3, 6, 7, 8, 9, 11, 12] ?_ | refine dR E_ok [6, 7, 8, 9, 11, 12] ?_ | refine dR E_ok [7, 8, 9, 11, 12] ?_ | refine dR E_ok [7, 8, 9, 10, 11, 12] ?_ | (refine hR _ _ ?_; refine sA ?_) | refine wA E_ok ?_ | exact trivial | contradiction)) <;> (first | (exact MT_mk _ trivial) | skip)
  rintro h6 -
  simp only [keepS, lkp, push_cast, simprocAttr]
  (repeat' (first | (with_reducible intro hh; (first | subst hh | (revert hh; with_reducible intro _))) | with_reducible apply And.intro | refine eK E_ok ?_ | refine wA E_ok ?_ | exact trivial | contradiction)) <;> (first | (exact ⟨((0, _), _), cpM.mk' htk (takeM_fr m) (takeM_wt m) (by omega), Lk.t2 (FkA.int rfl) (FkA.int rfl), rfl⟩) | skip)
  rename_i hpe0
  have hk2 : kpM I D (L + 1) (takeM m) (putM (takeM m) po) := kpM.put htk (hpc (eq_of_bne hpe0))
  refine EC.useAtX E_ok 0 (ec_st_put h (takeM m) po hlt) rfl (by (repeat (first | exact LLe.nil | refine LLe.cons (SLe.refl _) ?_ | refine LLe.cons SLe.rptr ?_))) ?_
  have ho2 : (putM (takeM m) po).o = m.o := (putM_o _ _).trans (takeM_o m)
  generalize putM (takeM m) po = m2 at hk2 ho2
  simp only [push_cast, simprocAttr]
  have hk3 : kpM I D (L + 2) (takeM m) (putM m2 { (default : GObject) with ID := id, Kind := 7, Ends := ⟨1, 1⟩ }) := hk2.puts (by omega) (okO_new htk.j0 (by show (7 : Int) ≠ 1; decide) hid rfl (Nat.zero_le _) rfl rfl rfl rfl)
  (repeat' (first | (with_reducible intro hh; (first | subst hh | (revert hh; with_reducible intro _))) | with_reducible apply And.intro | refine eK E_ok ?_ | refine aX 0 (ec_st_put h m2 _ (hk2.ok.sl (by omega))) rfl ?_ | refine wA E_ok ?_ | exact trivial | contradiction))
  have ho3 : (putM m2 { (default : GObject) with ID := id, Kind := 7, Ends := ⟨1, 1⟩ }).o = m.o := (putM_o _ _).trans ho2
  generalize putM m2 _ = m3 at hk3 ho3
  have hm3 := hk3.ok
  have hn3 : 0 ≤ ag.x0 ∧ ag.x0 < m3.o.Process.Table.length := by rw [ho3]; exact hx0
  (repeat' (first | (with_reducible intro hh; (first | subst hh | (revert hh; with_reducible intro _))) | with_reducible apply And.intro | refine eK E_ok ?_ | refine aX 0 (ec_st_set h m3 _ _ hm3.ob.sm.1.2.2.2.2 hn3) rfl ?_ | refine wA E_ok ?_ | exact trivial | contradiction)) <;> (first | (exact ⟨((0, _), { m3 with o := { m3.o with Process := { m3.o.Process with Table := m3.o.Process.Table.set ag.x0.toNat { (default : GSlot) with Kind := 4, Target := id, End := 1 } } } }), cpM.mk' (L := L + 2) (kpM.setS hm3 (slOk_chan hnz (.inr rfl)) (by show (4 : Int) ≠ 0; decide) (by show (4 : Int) ≠ 1; decide)).ok (hk3.same.1.trans (takeM_fr m)) (by show m3.out.Waits = _; rw [hk3.same.2]; exact takeM_wt m) (by omega), Lk.t2 (FkA.int rfl) (FkA.int rfl), rfl⟩) | skip)
theorem ec_st_slots19 (h : RowH) (m : GStep) (a : GAction) (hn : a.Number = 19) (hm : okM I D L m) (hL : L ≤ 700000) : EC Tryz.prog 152 [.rptr 0 h 41 0 0, .agg a.c] [sRow h m] fun r N => ∃ x : (Int × Int) × GStep, cpM I D (L + 60) m x.2 ∧ r = .tup [.int .i64 x.1.1, .int .i64 x.1.2] ∧ N = [sRow h x.2] := by
  obtain ⟨ak, aa, ar, av, an, ag⟩ := a
  simp only at hn
  subst hn
  refine EC.finKE ?_
  (refine nW E_ok call_152 Tryz.func152 Tryz.ntmps152 Tryz.results152 ?_)
  have hl := hm.sl (by omega)
  have hfl := hm.fl
  have htl : m.o.Process.Table.length ≤ 1000000 := hm.ob.sm.1.2.2.2.2
  intro fr
  refine EV_meetW (σ := RowH) [0, 3, 4, 5] (fun s => [(6, .rptr 2 s 4 0 0), (7, .int .i64 (tbGet m.o.Process.Table ag.x0).2)]) (fun B s => B ++ [.row s 108 4 [(tbGet m.o.Process.Table ag.x0).1.c]]) (fun _ => True) ?_ ?_
  rotate_left 1
  · (repeat' (first | (with_reducible intro hh; (first | subst hh | (revert hh; with_reducible intro _))) | with_reducible apply And.intro | refine eK E_ok ?_ | refine EC.use (ec_ref10_Get m.o.Process.Table _ htl) ?_ | refine dM E_ok 9 [0, 1, 2, 3, 4, 5, 6, 7, 8, 9, 10, 11, 12, 13] [0, 1, 2, 3, 4, 6, 7] fol fun R hR => ?_ | refine ed3 E_ok 5 8 13 ?_ ?_ ?_ | refine ed2 E_ok 8 13 ?_ ?_ | refine ed2 E_ok 5 13 ?_ ?_ | refine ed2 E_ok 5 8 ?_ ?_ | refine ed2 E_ok 9 13 ?_ ?_ | refine ed1 E_ok 8 ?_ | refine ed1 E_ok 5 ?_ | refine dR E_ok [10, 11, 12, 13, 14, 15] ?_ | refine dR E_ok [9, 10, 11, 12, 14, 15] ?_ | refine dR E_ok [10, 11, 12, 14, 15] ?_ | (refine hR _ _ ?_; refine sA ?_) | refine wA E_ok ?_ | exact trivial | contradiction)) <;> (first | (exact MT_mk _ trivial) | skip)
  rintro h1 -
  simp only [keepS, lkp, push_cast, simprocAttr]
  have hg := @tbGet_ok m.o.Process.Table ag.x0
  generalize tbGet m.o.Process.Table ag.x0 = q at hg
  obtain ⟨s, e⟩ := q
  (repeat' (first | (with_reducible intro hh; (first | subst hh | (revert hh; with_reducible intro _))) | with_reducible apply And.intro | refine eK E_ok ?_ | refine wA E_ok ?_ | exact trivial | contradiction)) <;> (first | (exact ⟨((_, _), _), cpM.of (kpM.refl hm (Nat.le_refl _)) (by omega), Lk.t2 (FkA.int rfl) (FkA.int rfl), rfl⟩) | skip)
  rename_i he fr3 fr2
  obtain ⟨hsm, hx0⟩ := hg he
  replace hsm : s ∈ m.o.Process.Table := hsm
  have hd : s.Kind = 1 → D s.Description := hm.dsc hsm
  refine EV_loopW E_ok [0, 3, 4, 5, 6, 7, 56, 57] (fun i : Nat => [(58, .int .i64 i)]) (fun B _ => B) (fun i => i ≤ 1 ∧ (i = 1 → s.Kind = 5)) (fun i => 1 - i) 0 ⟨Nat.zero_le _, by simp⟩ ?_
  rintro i ⟨hi, hk1⟩
  replace hi : i ≤ 1 := hi
  have hcase : i = 0 ∨ i = 1 := by omega
  rcases hcase with rfl | rfl
  · simp only [Int.ofNat_zero, push_cast, simprocAttr]
    (repeat' (first | (with_reducible intro hh; (first | subst hh | (revert hh; with_reducible intro _))) | with_reducible apply And.intro | refine eK E_ok ?_ | refine wA E_ok ?_ | exact trivial | contradiction)) <;> (first | (exact ⟨((0, _), _), cpM.of (kpM.refl hm (Nat.le_refl _)) (by omega), Lk.t2 (FkA.int rfl) (FkA.int rfl), rfl⟩) | skip)
    rename_i hkk
    exact NX_mk 1 ⟨Nat.le_refl _, fun _ => by simpa using hkk⟩
  replace hk1 := hk1 rfl
  clear hi
  simp only [Int.ofNat_one, push_cast, simprocAttr]
  have ht1 : ∀ o : GObject, (putM m o).o.Process.Table.length ≤ 1000000 := fun o => by rw [putM_o]; exact htl
  (repeat' (first | (with_reducible intro hh; (first | subst hh | (revert hh; with_reducible intro _))) | with_reducible apply And.intro | refine eK E_ok ?_ | (refine aE 0 (ec_st_roomE h m _ htl) rfl ?_; rintro ⟨_, _⟩ rfl) | refine aX 0 (ec_st_get h m _ hl) rfl ?_ | refine EC.use (ec_ref12_Accept _ (hm.get _).sm) ?_ | refine aX 0 (ec_st_put h m _ hl) rfl ?_ | (refine aE 0 (ec_st_slotE h (putM m _) _ (ht1 _)) rfl ?_; rintro ⟨_, _⟩ rfl) | refine wA E_ok ?_ | exact trivial | contradiction)) <;> (first | (exact ⟨((0, _), _), cpM.of (kpM.refl hm (Nat.le_refl _)) (by omega), Lk.t2 (FkA.int rfl) (FkA.int rfl), rfl⟩) | skip)
  rename_i g0 _ _
  have hk1 : kpM I D (L + 1) m (putM m (portTake (getS m.s s.Target).1).2.1) := kpM.put hm (okO_portTake (hm.get _) (eq_of_bne ‹((portTake _).2.2 != 0) = false›))
  exact ⟨((_, (0 : Int)), _), cpM.of (hk1.trans (kpM.slot hk1.ok (fun e => absurd e (by show (4 : Int) ≠ 1; decide)))) (by omega), Lk.t2 (FkA.int rfl) (FkA.int rfl), rfl⟩
theorem ec_st_slots20 (h : RowH) (m : GStep) (a : GAction) (hn : a.Number = 20) (hm : okM I D L m) (hL : L ≤ 700000) : EC Tryz.prog 152 [.rptr 0 h 41 0 0, .agg a.c] [sRow h m] fun r N => ∃ x : (Int × Int) × GStep, cpM I D (L + 60) m x.2 ∧ r = .tup [.int .i64 x.1.1, .int .i64 x.1.2] ∧ N = [sRow h x.2] := by
  obtain ⟨ak, aa, ar, av, an, ag⟩ := a
  simp only at hn
  subst hn
  refine EC.finKE ?_
  (refine nW E_ok call_152 Tryz.func152 Tryz.ntmps152 Tryz.results152 ?_)
  have hl := hm.sl (by omega)
  have hfl := hm.fl
  have htl : m.o.Process.Table.length ≤ 1000000 := hm.ob.sm.1.2.2.2.2
  intro fr
  refine EV_meetW (σ := RowH) [0, 3, 4, 5] (fun s => [(6, .rptr 2 s 4 0 0), (7, .int .i64 (tbGet m.o.Process.Table ag.x0).2)]) (fun B s => B ++ [.row s 108 4 [(tbGet m.o.Process.Table ag.x0).1.c]]) (fun _ => True) ?_ ?_
  rotate_left 1
  · (repeat' (first | (with_reducible intro hh; (first | subst hh | (revert hh; with_reducible intro _))) | with_reducible apply And.intro | refine eK E_ok ?_ | refine EC.use (ec_ref10_Get m.o.Process.Table _ htl) ?_ | refine dM E_ok 9 [0, 1, 2, 3, 4, 5, 6, 7, 8, 9, 10, 11, 12, 13] [0, 1, 2, 3, 4, 6, 7] fol fun R hR => ?_ | refine ed3 E_ok 5 8 13 ?_ ?_ ?_ | refine ed2 E_ok 8 13 ?_ ?_ | refine ed2 E_ok 5 13 ?_ ?_ | refine ed2 E_ok 5 8 ?_ ?_ | refine ed2 E_ok 9 13 ?_ ?_ | refine ed1 E_ok 8 ?_ | refine ed1 E_ok 5 ?_ | refine dR E_ok [10, 11, 12, 13, 14, 15] ?_ | refine dR E_ok [9, 10, 11, 12, 14, 15] ?_ | refine dR E_ok [10, 11, 12, 14, 15] ?_ | (refine hR _ _ ?_; refine sA ?_) | refine wA E_ok ?_ | exact trivial | contradiction)) <;> (first | (exact MT_mk _ trivial) | skip)
  rintro h1 -
  simp only [keepS, lkp, push_cast, simprocAttr]
  have hg := @tbGet_ok m.o.Process.Table ag.x0
  generalize tbGet m.o.Process.Table ag.x0 = q at hg
  obtain ⟨s, e⟩ := q
  (repeat' (first | (with_reducible intro hh; (first | subst hh | (revert hh; with_reducible intro _))) | with_reducible apply And.intro | refine eK E_ok ?_ | refine wA E_ok ?_ | exact trivial | contradiction)) <;> (first | (exact ⟨((_, _), _), cpM.of (kpM.refl hm (Nat.le_refl _)) (by omega), Lk.t2 (FkA.int rfl) (FkA.int rfl), rfl⟩) | skip)
  rename_i he fr3 fr2
  obtain ⟨hsm, hx0⟩ := hg he
  replace hsm : s ∈ m.o.Process.Table := hsm
  have hd : s.Kind = 1 → D s.Description := hm.dsc hsm
  refine EV_loopW E_ok [0, 3, 4, 5, 6, 7, 56, 57] (fun i : Nat => [(58, .int .i64 i)]) (fun B _ => B) (fun i => i ≤ 1 ∧ (i = 1 → s.Kind = 8)) (fun i => 1 - i) 0 ⟨Nat.zero_le _, by simp⟩ ?_
  rintro i ⟨hi, hk1⟩
  replace hi : i ≤ 1 := hi
  have hcase : i = 0 ∨ i = 1 := by omega
  rcases hcase with rfl | rfl
  · simp only [Int.ofNat_zero, push_cast, simprocAttr]
    (repeat' (first | (with_reducible intro hh; (first | subst hh | (revert hh; with_reducible intro _))) | with_reducible apply And.intro | refine eK E_ok ?_ | refine wA E_ok ?_ | exact trivial | contradiction)) <;> (first | (exact ⟨((0, _), _), cpM.of (kpM.refl hm (Nat.le_refl _)) (by omega), Lk.t2 (FkA.int rfl) (FkA.int rfl), rfl⟩) | skip)
    rename_i hkk
    exact NX_mk 1 ⟨Nat.le_refl _, fun _ => by simpa using hkk⟩
  replace hk1 := hk1 rfl
  clear hi
  simp only [Int.ofNat_one, push_cast, simprocAttr]
  (repeat' (first | (with_reducible intro hh; (first | subst hh | (revert hh; with_reducible intro _))) | with_reducible apply And.intro | refine eK E_ok ?_ | refine aX 0 (ec_st_get h m _ hl) rfl ?_ | refine EC.use (ec_ref17_Do _ _) ?_ | refine aX 0 (ec_st_put h m _ hl) rfl ?_ | refine dM E_ok 10 [0] [0, 1, 2, 4, 5, 6] fol fun R hR => ?_ | refine ed2 E_ok 3 12 ?_ ?_ | refine ed2 E_ok 7 12 ?_ ?_ | refine dR E_ok [3, 7, 8, 9, 10, 11, 13, 14, 15] ?_ | refine dR E_ok [7, 8, 9, 10, 11, 13, 14, 15] ?_ | refine dR E_ok [8, 9, 10, 11, 13, 14, 15] ?_ | refine dR E_ok [8, 9, 10, 11, 12, 13, 14, 15] ?_ | (refine hR _ _ ?_; refine sA ?_) | refine wA E_ok ?_ | exact trivial | contradiction)) <;> (first | (exact ⟨((_, _), _), cpM.of (kpM.put hm (okO_devDo (hm.get _) (eq_of_beq ‹_›))) (by omega), Lk.t2 (FkA.int rfl) (FkA.int rfl), rfl⟩) | (exact ⟨((_, _), _), cpM.of (kpM.refl hm (Nat.le_refl _)) (by omega), Lk.t2 (FkA.int rfl) (FkA.int rfl), rfl⟩) | skip)
end
end Go.Proofs.YtfmldmafigpblaaGreatDoor
end
section
namespace Go.Proofs.YtfmldmafigpblaaGreatDoor
open Go.Lift
set_option linter.unusedSimpArgs false
set_option linter.unusedVariables false
set_option maxRecDepth 10000
set_option maxHeartbeats 1000000
section
variable {I D : Int → Prop} {L : Nat} {m : GStep}
theorem cpM.refl (hm : okM I D L m) {L' : Nat} (hl : L ≤ L') : cpM I D L' m m := cpM.of (kpM.refl hm (Nat.le_refl _)) hl
theorem kpM.take (hm : okM I D L m) : kpM I D L m { m with o := { m.o with Process := { m.o.Process with Pending := 0 } } } := kpM.ofO hm (okP_take hm.ob) (Nat.le_refl _)
theorem kpM.alm (hm : okM I D L m) {n : Int} (h2 : (almSet m.o.Process n).2.2 = 0) : kpM I D L m { m with o := { m.o with Process := (almSet m.o.Process n).2.1 } } := kpM.ofO hm (okP_almSet hm.ob h2) (Nat.le_refl _)
attribute [push_cast] rp2 r3alm
attribute [local irreducible] EC EV getS putS remS putM cpM kpM takeM textM slotM semNew almSet
theorem ec_st_call2 (h : RowH) (m : GStep) (a : GAction) (hn : a.Number = 2) (hm : okM I D L m) (hL : L ≤ 700000) : EC Tryz.prog 121 [.rptr 0 h 41 0 0, .agg a.c] [sRow h m] fun r N => ∃ x : (Int × Int × Bool × Int) × GStep, cpM I D (L + 60) m x.2 ∧ r = .tup [.int .i64 x.1.1, .int .i64 x.1.2.1, .bool x.1.2.2.1, .int .i64 x.1.2.2.2] ∧ N = [sRow h x.2] := by
  obtain ⟨ak, aa, ar, av, an, ag⟩ := a
  simp only at hn
  subst hn
  refine EC.finKE ?_
  (refine nW E_ok call_121 Tryz.func121 Tryz.ntmps121 Tryz.results121 ?_)
  have hl := hm.sl (by omega)
  have hfl := hm.fl
  have htl : m.o.Process.Table.length ≤ 1000000 := hm.ob.sm.1.2.2.2.2
  (repeat' (first | (with_reducible intro hh; (first | subst hh | (revert hh; with_reducible intro _))) | with_reducible apply And.intro | refine eK E_ok ?_ | refine wA E_ok ?_ | exact trivial | contradiction)) <;> (first | (exact ⟨((_, _, _, _), _), cpM.refl hm (by omega), Lk.t4 (FkA.int rfl) (FkA.int rfl) (FkA.bool rfl) (FkA.int rfl), rfl⟩) | skip)
theorem ec_st_call3 (h : RowH) (m : GStep) (a : GAction) (hn : a.Number = 3) (hm : okM I D L m) (hL : L ≤ 700000) (hu : m.out.Used = 0) (hf : m.fresh.length = 1 + (spPriv m.o.Process.Pages).length) : EC Tryz.prog 121 [.rptr 0 h 41 0 0, .agg a.c] [sRow h m] fun r N => ∃ x : (Int × Int × Bool × Int) × GStep, cpM I D (L + 60) m x.2 ∧ r = .tup [.int .i64 x.1.1, .int .i64 x.1.2.1, .bool x.1.2.2.1, .int .i64 x.1.2.2.2] ∧ N = [sRow h x.2] := by
  obtain ⟨ak, aa, ar, av, an, ag⟩ := a
  simp only at hn
  subst hn
  refine EC.finKE ?_
  (refine nW E_ok call_121 Tryz.func121 Tryz.ntmps121 Tryz.results121 ?_)
  have hl := hm.sl (by omega)
  have hfl := hm.fl
  have htl : m.o.Process.Table.length ≤ 1000000 := hm.ob.sm.1.2.2.2.2
  have hF := ec_st_fork h m hm (show L ≤ 800000 by omega) hu hf
  (repeat' (first | (with_reducible intro hh; (first | subst hh | (revert hh; with_reducible intro _))) | with_reducible apply And.intro | refine eK E_ok ?_ | (refine aE 0 (hF) rfl ?_; rintro ⟨_, _, _⟩ _) | refine wA E_ok ?_ | exact trivial | contradiction)) <;> (first | (exact ⟨((_, _, _, _), _), ‹cpM I D (L + 60) m _›, Lk.t4 (FkA.int rfl) (FkA.int rfl) (FkA.bool rfl) (FkA.int rfl), rfl⟩) | skip)
theorem ec_st_call4 (h : RowH) (m : GStep) (a : GAction) (hn : a.Number = 4) (hm : okM I D L m) (hL : L ≤ 700000) : EC Tryz.prog 121 [.rptr 0 h 41 0 0, .agg a.c] [sRow h m] fun r N => ∃ x : (Int × Int × Bool × Int) × GStep, cpM I D (L + 60) m x.2 ∧ r = .tup [.int .i64 x.1.1, .int .i64 x.1.2.1, .bool x.1.2.2.1, .int .i64 x.1.2.2.2] ∧ N = [sRow h x.2] := by
  obtain ⟨ak, aa, ar, av, an, ag⟩ := a
  simp only at hn
  subst hn
  refine EC.finKE ?_
  (refine nW E_ok call_121 Tryz.func121 Tryz.ntmps121 Tryz.results121 ?_)
  have hl := hm.sl (by omega)
  have hfl := hm.fl
  have htl : m.o.Process.Table.length ≤ 1000000 := hm.ob.sm.1.2.2.2.2
  (repeat' (first | (with_reducible intro hh; (first | subst hh | (revert hh; with_reducible intro _))) | with_reducible apply And.intro | refine eK E_ok ?_ | (refine aE 0 (ec_st_wait h m hm (by omega)) rfl ?_; rintro ⟨_, _, _, _⟩ _) | refine wA E_ok ?_ | exact trivial | contradiction)) <;> (first | (exact ⟨((_, _, _, _), _), ‹cpM I D (L + 60) m _›, Lk.t4 (FkA.int rfl) (FkA.int rfl) (FkA.bool rfl) (FkA.int rfl), rfl⟩) | skip)
theorem ec_st_call5 (h : RowH) (m : GStep) (a : GAction) (hn : a.Number = 5) (hm : okM I D L m) (hL : L ≤ 700000) : EC Tryz.prog 121 [.rptr 0 h 41 0 0, .agg a.c] [sRow h m] fun r N => ∃ x : (Int × Int × Bool × Int) × GStep, cpM I D (L + 60) m x.2 ∧ r = .tup [.int .i64 x.1.1, .int .i64 x.1.2.1, .bool x.1.2.2.1, .int .i64 x.1.2.2.2] ∧ N = [sRow h x.2] := by
  obtain ⟨ak, aa, ar, av, an, ag⟩ := a
  simp only at hn
  subst hn
  refine EC.finKE ?_
  (refine nW E_ok call_121 Tryz.func121 Tryz.ntmps121 Tryz.results121 ?_)
  have hl := hm.sl (by omega)
  have hfl := hm.fl
  have htl : m.o.Process.Table.length ≤ 1000000 := hm.ob.sm.1.2.2.2.2
  (repeat' (first | (with_reducible intro hh; (first | subst hh | (revert hh; with_reducible intro _))) | with_reducible apply And.intro | refine eK E_ok ?_ | (refine aE 0 (ec_st_kill h m _ hm (by omega)) rfl ?_; rintro ⟨_, _⟩ _) | refine wA E_ok ?_ | exact trivial | contradiction)) <;> (first | (exact ⟨((_, _, _, _), _), cpM.of ‹kpM I D (L + 1) m _› (by omega), Lk.t4 (FkA.int rfl) (FkA.int rfl) (FkA.bool rfl) (FkA.int rfl), rfl⟩) | skip)
theorem ec_st_call6 (h : RowH) (m : GStep) (a : GAction) (hn : a.Number = 6) (hm : okM I D L m) (hL : L ≤ 700000) : EC Tryz.prog 121 [.rptr 0 h 41 0 0, .agg a.c] [sRow h m] fun r N => ∃ x : (Int × Int × Bool × Int) × GStep, cpM I D (L + 60) m x.2 ∧ r = .tup [.int .i64 x.1.1, .int .i64 x.1.2.1, .bool x.1.2.2.1, .int .i64 x.1.2.2.2] ∧ N = [sRow h x.2] := by
  obtain ⟨ak, aa, ar, av, an, ag⟩ := a
  simp only at hn
  subst hn
  refine EC.finKE ?_
  (refine nW E_ok call_121 Tryz.func121 Tryz.ntmps121 Tryz.results121 ?_)
  have hl := hm.sl (by omega)
  have hfl := hm.fl
  have htl : m.o.Process.Table.length ≤ 1000000 := hm.ob.sm.1.2.2.2.2
  (repeat' (first | (with_reducible intro hh; (first | subst hh | (revert hh; with_reducible intro _))) | with_reducible apply And.intro | refine eK E_ok ?_ | refine EC.use (ec_ref14_Take _) ?_ | refine wA E_ok ?_ | exact trivial | contradiction)) <;> (first | (exact ⟨((_, _, _, _), { m with o := { m.o with Process := { m.o.Process with Pending := 0 } } }), cpM.of (kpM.take hm) (by omega), Lk.t4 (FkA.int rfl) (FkA.int rfl) (FkA.bool rfl) (FkA.int rfl), rfl⟩) | skip)
theorem ec_st_call7 (h : RowH) (m : GStep) (a : GAction) (hn : a.Number = 7) (hm : okM I D L m) (hL : L ≤ 700000) (hu : m.out.Used = 0) (hf : (if a.Args.x1 = 1 then 2 else 1) ≤ m.fresh.length) : EC Tryz.prog 121 [.rptr 0 h 41 0 0, .agg a.c] [sRow h m] fun r N => ∃ x : (Int × Int × Bool × Int) × GStep, cpM I D (L + 60) m x.2 ∧ r = .tup [.int .i64 x.1.1, .int .i64 x.1.2.1, .bool x.1.2.2.1, .int .i64 x.1.2.2.2] ∧ N = [sRow h x.2] := by
  obtain ⟨ak, aa, ar, av, an, ag⟩ := a
  simp only at hn
  subst hn
  refine EC.finKE ?_
  (refine nW E_ok call_121 Tryz.func121 Tryz.ntmps121 Tryz.results121 ?_)
  have hl := hm.sl (by omega)
  have hfl := hm.fl
  have htl : m.o.Process.Table.length ≤ 1000000 := hm.ob.sm.1.2.2.2.2
  (repeat' (first | (with_reducible intro hh; (first | subst hh | (revert hh; with_reducible intro _))) | with_reducible apply And.intro | refine eK E_ok ?_ | (refine aE 0 (ec_st_open h m _ hm hL hu hf) rfl ?_; rintro ⟨_, _, _⟩ _) | refine wA E_ok ?_ | exact trivial | contradiction)) <;> (first | (exact ⟨((_, _, _, _), _), ‹cpM I D (L + 60) m _›, Lk.t4 (FkA.int rfl) (FkA.int rfl) (FkA.bool rfl) (FkA.int rfl), rfl⟩) | skip)
theorem ec_st_call8 (h : RowH) (m : GStep) (a : GAction) (hn : a.Number = 8) (hm : okM I D L m) (hL : L ≤ 700000) : EC Tryz.prog 121 [.rptr 0 h 41 0 0, .agg a.c] [sRow h m] fun r N => ∃ x : (Int × Int × Bool × Int) × GStep, cpM I D (L + 60) m x.2 ∧ r = .tup [.int .i64 x.1.1, .int .i64 x.1.2.1, .bool x.1.2.2.1, .int .i64 x.1.2.2.2] ∧ N = [sRow h x.2] := by
  obtain ⟨ak, aa, ar, av, an, ag⟩ := a
  simp only at hn
  subst hn
  refine EC.finKE ?_
  (refine nW E_ok call_121 Tryz.func121 Tryz.ntmps121 Tryz.results121 ?_)
  have hl := hm.sl (by omega)
  have hfl := hm.fl
  have htl : m.o.Process.Table.length ≤ 1000000 := hm.ob.sm.1.2.2.2.2
  (repeat' (first | (with_reducible intro hh; (first | subst hh | (revert hh; with_reducible intro _))) | with_reducible apply And.intro | refine eK E_ok ?_ | (refine aE 0 (ec_st_slots8 h m _ rfl hm (by omega)) rfl ?_; rintro ⟨_, _, _⟩ _) | refine wA E_ok ?_ | exact trivial | contradiction)) <;> (first | (exact ⟨((_, _, _, _), _), ‹cpM I D (L + 60) m _›, Lk.t4 (FkA.int rfl) (FkA.int rfl) (FkA.bool rfl) (FkA.int rfl), rfl⟩) | skip)
theorem ec_st_call9 (h : RowH) (m : GStep) (a : GAction) (hn : a.Number = 9) (hm : okM I D L m) (hL : L ≤ 700000) : EC Tryz.prog 121 [.rptr 0 h 41 0 0, .agg a.c] [sRow h m] fun r N => ∃ x : (Int × Int × Bool × Int) × GStep, cpM I D (L + 60) m x.2 ∧ r = .tup [.int .i64 x.1.1, .int .i64 x.1.2.1, .bool x.1.2.2.1, .int .i64 x.1.2.2.2] ∧ N = [sRow h x.2] := by
  obtain ⟨ak, aa, ar, av, an, ag⟩ := a
  simp only at hn
  subst hn
  refine EC.finKE ?_
  (refine nW E_ok call_121 Tryz.func121 Tryz.ntmps121 Tryz.results121 ?_)
  have hl := hm.sl (by omega)
  have hfl := hm.fl
  have htl : m.o.Process.Table.length ≤ 1000000 := hm.ob.sm.1.2.2.2.2
  (repeat' (first | (with_reducible intro hh; (first | subst hh | (revert hh; with_reducible intro _))) | with_reducible apply And.intro | refine eK E_ok ?_ | (refine aE 0 (ec_st_slots9 h m _ rfl hm (by omega)) rfl ?_; rintro ⟨_, _, _⟩ _) | refine wA E_ok ?_ | exact trivial | contradiction)) <;> (first | (exact ⟨((_, _, _, _), _), ‹cpM I D (L + 60) m _›, Lk.t4 (FkA.int rfl) (FkA.int rfl) (FkA.bool rfl) (FkA.int rfl), rfl⟩) | skip)
theorem ec_st_call10 (h : RowH) (m : GStep) (a : GAction) (hn : a.Number = 10) (hm : okM I D L m) (hL : L ≤ 700000) : EC Tryz.prog 121 [.rptr 0 h 41 0 0, .agg a.c] [sRow h m] fun r N => ∃ x : (Int × Int × Bool × Int) × GStep, cpM I D (L + 60) m x.2 ∧ r = .tup [.int .i64 x.1.1, .int .i64 x.1.2.1, .bool x.1.2.2.1, .int .i64 x.1.2.2.2] ∧ N = [sRow h x.2] := by
  obtain ⟨ak, aa, ar, av, an, ag⟩ := a
  simp only at hn
  subst hn
  refine EC.finKE ?_
  (refine nW E_ok call_121 Tryz.func121 Tryz.ntmps121 Tryz.results121 ?_)
  have hl := hm.sl (by omega)
  have hfl := hm.fl
  have htl : m.o.Process.Table.length ≤ 1000000 := hm.ob.sm.1.2.2.2.2
  (repeat' (first | (with_reducible intro hh; (first | subst hh | (revert hh; with_reducible intro _))) | with_reducible apply And.intro | refine eK E_ok ?_ | (refine aE 0 (ec_st_slots10 h m _ rfl hm (by omega)) rfl ?_; rintro ⟨_, _, _⟩ _) | refine wA E_ok ?_ | exact trivial | contradiction)) <;> (first | (exact ⟨((_, _, _, _), _), ‹cpM I D (L + 60) m _›, Lk.t4 (FkA.int rfl) (FkA.int rfl) (FkA.bool rfl) (FkA.int rfl), rfl⟩) | skip)
theorem ec_st_call11 (h : RowH) (m : GStep) (a : GAction) (hn : a.Number = 11) (hm : okM I D L m) (hL : L ≤ 700000) : EC Tryz.prog 121 [.rptr 0 h 41 0 0, .agg a.c] [sRow h m] fun r N => ∃ x : (Int × Int × Bool × Int) × GStep, cpM I D (L + 60) m x.2 ∧ r = .tup [.int .i64 x.1.1, .int .i64 x.1.2.1, .bool x.1.2.2.1, .int .i64 x.1.2.2.2] ∧ N = [sRow h x.2] := by
  obtain ⟨ak, aa, ar, av, an, ag⟩ := a
  simp only at hn
  subst hn
  refine EC.finKE ?_
  (refine nW E_ok call_121 Tryz.func121 Tryz.ntmps121 Tryz.results121 ?_)
  have hl := hm.sl (by omega)
  have hfl := hm.fl
  have htl : m.o.Process.Table.length ≤ 1000000 := hm.ob.sm.1.2.2.2.2
  (repeat' (first | (with_reducible intro hh; (first | subst hh | (revert hh; with_reducible intro _))) | with_reducible apply And.intro | refine eK E_ok ?_ | (refine aE 0 (ec_st_slots11 h m _ rfl hm (by omega)) rfl ?_; rintro ⟨_, _, _⟩ _) | refine wA E_ok ?_ | exact trivial | contradiction)) <;> (first | (exact ⟨((_, _, _, _), _), ‹cpM I D (L + 60) m _›, Lk.t4 (FkA.int rfl) (FkA.int rfl) (FkA.bool rfl) (FkA.int rfl), rfl⟩) | skip)
theorem ec_st_call12 (h : RowH) (m : GStep) (a : GAction) (hn : a.Number = 12) (hm : okM I D L m) (hL : L ≤ 700000) : EC Tryz.prog 121 [.rptr 0 h 41 0 0, .agg a.c] [sRow h m] fun r N => ∃ x : (Int × Int × Bool × Int) × GStep, cpM I D (L + 60) m x.2 ∧ r = .tup [.int .i64 x.1.1, .int .i64 x.1.2.1, .bool x.1.2.2.1, .int .i64 x.1.2.2.2] ∧ N = [sRow h x.2] := by
  obtain ⟨ak, aa, ar, av, an, ag⟩ := a
  simp only at hn
  subst hn
  refine EC.finKE ?_
  (refine nW E_ok call_121 Tryz.func121 Tryz.ntmps121 Tryz.results121 ?_)
  have hl := hm.sl (by omega)
  have hfl := hm.fl
  have htl : m.o.Process.Table.length ≤ 1000000 := hm.ob.sm.1.2.2.2.2
  (repeat' (first | (with_reducible intro hh; (first | subst hh | (revert hh; with_reducible intro _))) | with_reducible apply And.intro | refine eK E_ok ?_ | (refine aE 0 (ec_st_slots12 h m _ rfl hm (by omega)) rfl ?_; rintro ⟨_, _, _⟩ _) | refine wA E_ok ?_ | exact trivial | contradiction)) <;> (first | (exact ⟨((_, _, _, _), _), ‹cpM I D (L + 60) m _›, Lk.t4 (FkA.int rfl) (FkA.int rfl) (FkA.bool rfl) (FkA.int rfl), rfl⟩) | skip)
theorem ec_st_call13 (h : RowH) (m : GStep) (a : GAction) (hn : a.Number = 13) (hm : okM I D L m) (hL : L ≤ 700000) (hu : m.out.Used = 0) (hf : 1 ≤ m.fresh.length) : EC Tryz.prog 121 [.rptr 0 h 41 0 0, .agg a.c] [sRow h m] fun r N => ∃ x : (Int × Int × Bool × Int) × GStep, cpM I D (L + 60) m x.2 ∧ r = .tup [.int .i64 x.1.1, .int .i64 x.1.2.1, .bool x.1.2.2.1, .int .i64 x.1.2.2.2] ∧ N = [sRow h x.2] := by
  obtain ⟨ak, aa, ar, av, an, ag⟩ := a
  simp only at hn
  subst hn
  refine EC.finKE ?_
  (refine nW E_ok call_121 Tryz.func121 Tryz.ntmps121 Tryz.results121 ?_)
  have hl := hm.sl (by omega)
  have hfl := hm.fl
  have htl : m.o.Process.Table.length ≤ 1000000 := hm.ob.sm.1.2.2.2.2
  have hu1 : m.out.Used < m.fresh.length := by omega
  have htk := hm.take hu1
  have hid := hm.taken hu1
  (repeat' (first | (with_reducible intro hh; (first | subst hh | (revert hh; with_reducible intro _))) | with_reducible apply And.intro | refine eK E_ok ?_ | (refine aE 0 (ec_st_roomE h m _ htl) rfl ?_; rintro ⟨_, _⟩ rfl) | refine aX 0 (ec_st_take h m ⟨by omega, hu1⟩ (by omega)) rfl ?_ | refine EC.use (ec_ref11_New _) ?_ | refine aX 0 (ec_st_put h (takeM m) _ (htk.sl (by omega))) rfl ?_ | refine wA E_ok ?_ | exact trivial | contradiction)) <;> (first | (exact ⟨((_, _, _, _), _), cpM.refl hm (by omega), Lk.t4 (FkA.int rfl) (FkA.int rfl) (FkA.bool rfl) (FkA.int rfl), rfl⟩) | skip)
  generalize m.fresh.getD m.out.Used.toNat default = id at hid
  have hk1 : okM I D (L + 1) (putM (takeM m) { (default : GObject) with ID := id, Kind := 5, Readers := 1, Writers := 1 }) := htk.put (okO_new htk.j0 (by show (5 : Int) ≠ 1; decide) hid rfl (Nat.zero_le _) rfl rfl rfl rfl)
  have hf1 : (putM (takeM m) { (default : GObject) with ID := id, Kind := 5, Readers := 1, Writers := 1 }).fresh = m.fresh := putM_fr _ _
  have hw1 : (putM (takeM m) { (default : GObject) with ID := id, Kind := 5, Readers := 1, Writers := 1 }).out.Waits = m.out.Waits := by rw [putM_out]; exact takeM_wt m
  generalize putM (takeM m) _ = m1 at hk1 hf1 hw1
  have hk2 : kpM I D (L + 1) m1 (slotM m1 { (default : GSlot) with Kind := 2, Target := id }) := kpM.slot hk1 (fun e => absurd e (by show (2 : Int) ≠ 1; decide))
  have hk3 : kpM I D (L + 1) (slotM m1 { (default : GSlot) with Kind := 2, Target := id }) (slotM (slotM m1 { (default : GSlot) with Kind := 2, Target := id }) { (default : GSlot) with Kind := 3, Target := id }) := kpM.slot hk2.ok (fun e => absurd e (by show (3 : Int) ≠ 1; decide))
  (repeat' (first | (with_reducible intro hh; (first | subst hh | (revert hh; with_reducible intro _))) | with_reducible apply And.intro | refine eK E_ok ?_ | (refine aE 0 (ec_st_slotE h m1 _ hk1.ob.sm.1.2.2.2.2) rfl ?_; rintro ⟨_, _⟩ rfl) | (refine aE 0 (ec_st_slotE h (slotM m1 _) _ hk2.ok.ob.sm.1.2.2.2.2) rfl ?_; rintro ⟨_, _⟩ rfl) | refine wA E_ok ?_ | exact trivial | contradiction)) <;> (first | (exact ⟨((_, _, _, (0 : Int)), _), cpM.mk' (hk2.trans hk3).ok ((hk2.trans hk3).same.1.trans hf1) (by rw [(hk2.trans hk3).same.2]; exact hw1) (by omega), Lk.t4 (FkA.int rfl) (FkA.int rfl) (FkA.bool rfl) (FkA.int rfl), rfl⟩) | skip)
theorem ec_st_call14 (h : RowH) (m : GStep) (a : GAction) (hn : a.Number = 14) (hm : okM I D L m) (hL : L ≤ 700000) : EC Tryz.prog 121 [.rptr 0 h 41 0 0, .agg a.c] [sRow h m] fun r N => ∃ x : (Int × Int × Bool × Int) × GStep, cpM I D (L + 60) m x.2 ∧ r = .tup [.int .i64 x.1.1, .int .i64 x.1.2.1, .bool x.1.2.2.1, .int .i64 x.1.2.2.2] ∧ N = [sRow h x.2] := by
  obtain ⟨ak, aa, ar, av, an, ag⟩ := a
  simp only at hn
  subst hn
  refine EC.finKE ?_
  (refine nW E_ok call_121 Tryz.func121 Tryz.ntmps121 Tryz.results121 ?_)
  have hl := hm.sl (by omega)
  have hfl := hm.fl
  have htl : m.o.Process.Table.length ≤ 1000000 := hm.ob.sm.1.2.2.2.2
  (repeat' (first | (with_reducible intro hh; (first | subst hh | (revert hh; with_reducible intro _))) | with_reducible apply And.intro | refine eK E_ok ?_ | (refine aE 0 (ec_st_slots14 h m _ rfl hm (by omega)) rfl ?_; rintro ⟨_, _, _⟩ _) | refine wA E_ok ?_ | exact trivial | contradiction)) <;> (first | (exact ⟨((_, _, _, _), _), ‹cpM I D (L + 60) m _›, Lk.t4 (FkA.int rfl) (FkA.int rfl) (FkA.bool rfl) (FkA.int rfl), rfl⟩) | skip)
theorem ec_st_call15 (h : RowH) (m : GStep) (a : GAction) (hn : a.Number = 15) (hm : okM I D L m) (hL : L ≤ 700000) : EC Tryz.prog 121 [.rptr 0 h 41 0 0, .agg a.c] [sRow h m] fun r N => ∃ x : (Int × Int × Bool × Int) × GStep, cpM I D (L + 60) m x.2 ∧ r = .tup [.int .i64 x.1.1, .int .i64 x.1.2.1, .bool x.1.2.2.1, .int .i64 x.1.2.2.2] ∧ N = [sRow h x.2] := by
  obtain ⟨ak, aa, ar, av, an, ag⟩ := a
  simp only at hn
  subst hn
  refine EC.finKE ?_
  (refine nW E_ok call_121 Tryz.func121 Tryz.ntmps121 Tryz.results121 ?_)
  have hl := hm.sl (by omega)
  have hfl := hm.fl
  have htl : m.o.Process.Table.length ≤ 1000000 := hm.ob.sm.1.2.2.2.2
  (repeat' (first | (with_reducible intro hh; (first | subst hh | (revert hh; with_reducible intro _))) | with_reducible apply And.intro | refine eK E_ok ?_ | (refine aE 0 (ec_st_slots15 h m _ rfl hm (by omega)) rfl ?_; rintro ⟨_, _, _⟩ _) | refine wA E_ok ?_ | exact trivial | contradiction)) <;> (first | (exact ⟨((_, _, _, _), _), ‹cpM I D (L + 60) m _›, Lk.t4 (FkA.int rfl) (FkA.int rfl) (FkA.bool rfl) (FkA.int rfl), rfl⟩) | skip)
theorem ec_st_call16 (h : RowH) (m : GStep) (a : GAction) (hn : a.Number = 16) (hm : okM I D L m) (hL : L ≤ 700000) (hu : m.out.Used = 0) (hf : 1 ≤ a.Args.x1 ∧ a.Args.x1 ≤ 16 → a.Args.x1.toNat ≤ m.fresh.length) : EC Tryz.prog 121 [.rptr 0 h 41 0 0, .agg a.c] [sRow h m] fun r N => ∃ x : (Int × Int × Bool × Int) × GStep, cpM I D (L + 60) m x.2 ∧ r = .tup [.int .i64 x.1.1, .int .i64 x.1.2.1, .bool x.1.2.2.1, .int .i64 x.1.2.2.2] ∧ N = [sRow h x.2] := by
  obtain ⟨ak, aa, ar, av, an, ag⟩ := a
  simp only at hn
  subst hn
  refine EC.finKE ?_
  (refine nW E_ok call_121 Tryz.func121 Tryz.ntmps121 Tryz.results121 ?_)
  have hl := hm.sl (by omega)
  have hfl := hm.fl
  have htl : m.o.Process.Table.length ≤ 1000000 := hm.ob.sm.1.2.2.2.2
  (repeat' (first | (with_reducible intro hh; (first | subst hh | (revert hh; with_reducible intro _))) | with_reducible apply And.intro | refine eK E_ok ?_ | (refine aE 0 (ec_st_share h m _ hm hL hu hf) rfl ?_; rintro ⟨_, _, _⟩ _) | refine wA E_ok ?_ | exact trivial | contradiction)) <;> (first | (exact ⟨((_, _, _, _), _), ‹cpM I D (L + 60) m _›, Lk.t4 (FkA.int rfl) (FkA.int rfl) (FkA.bool rfl) (FkA.int rfl), rfl⟩) | skip)
theorem ec_st_call17 (h : RowH) (m : GStep) (a : GAction) (hn : a.Number = 17) (hm : okM I D L m) (hL : L ≤ 700000) (hu : m.out.Used = 0) (hf : 1 ≤ m.fresh.length) : EC Tryz.prog 121 [.rptr 0 h 41 0 0, .agg a.c] [sRow h m] fun r N => ∃ x : (Int × Int × Bool × Int) × GStep, cpM I D (L + 60) m x.2 ∧ r = .tup [.int .i64 x.1.1, .int .i64 x.1.2.1, .bool x.1.2.2.1, .int .i64 x.1.2.2.2] ∧ N = [sRow h x.2] := by
  obtain ⟨ak, aa, ar, av, an, ag⟩ := a
  simp only at hn
  subst hn
  refine EC.finKE ?_
  (refine nW E_ok call_121 Tryz.func121 Tryz.ntmps121 Tryz.results121 ?_)
  have hl := hm.sl (by omega)
  have hfl := hm.fl
  have htl : m.o.Process.Table.length ≤ 1000000 := hm.ob.sm.1.2.2.2.2
  (repeat' (first | (with_reducible intro hh; (first | subst hh | (revert hh; with_reducible intro _))) | with_reducible apply And.intro | refine eK E_ok ?_ | (refine aE 0 (ec_st_named h m _ hm hL hu hf) rfl ?_; rintro ⟨_, _, _⟩ _) | refine wA E_ok ?_ | exact trivial | contradiction)) <;> (first | (exact ⟨((_, _, _, _), _), ‹cpM I D (L + 60) m _›, Lk.t4 (FkA.int rfl) (FkA.int rfl) (FkA.bool rfl) (FkA.int rfl), rfl⟩) | skip)
theorem ec_st_call18 (h : RowH) (m : GStep) (a : GAction) (hn : a.Number = 18) (hm : okM I D L m) (hL : L ≤ 700000) (hu : m.out.Used = 0) (hf : 1 ≤ m.fresh.length) : EC Tryz.prog 121 [.rptr 0 h 41 0 0, .agg a.c] [sRow h m] fun r N => ∃ x : (Int × Int × Bool × Int) × GStep, cpM I D (L + 60) m x.2 ∧ r = .tup [.int .i64 x.1.1, .int .i64 x.1.2.1, .bool x.1.2.2.1, .int .i64 x.1.2.2.2] ∧ N = [sRow h x.2] := by
  obtain ⟨ak, aa, ar, av, an, ag⟩ := a
  simp only at hn
  subst hn
  refine EC.finKE ?_
  (refine nW E_ok call_121 Tryz.func121 Tryz.ntmps121 Tryz.results121 ?_)
  have hl := hm.sl (by omega)
  have hfl := hm.fl
  have htl : m.o.Process.Table.length ≤ 1000000 := hm.ob.sm.1.2.2.2.2
  (repeat' (first | (with_reducible intro hh; (first | subst hh | (revert hh; with_reducible intro _))) | with_reducible apply And.intro | refine eK E_ok ?_ | (refine aE 0 (ec_st_slots18 h m _ rfl hm (by omega) hu hf) rfl ?_; rintro ⟨_, _, _⟩ _) | refine wA E_ok ?_ | exact trivial | contradiction)) <;> (first | (exact ⟨((_, _, _, _), _), ‹cpM I D (L + 60) m _›, Lk.t4 (FkA.int rfl) (FkA.int rfl) (FkA.bool rfl) (FkA.int rfl), rfl⟩) | skip)
theorem ec_st_call19 (h : RowH) (m : GStep) (a : GAction) (hn : a.Number = 19) (hm : okM I D L m) (hL : L ≤ 700000) : EC Tryz.prog 121 [.rptr 0 h 41 0 0, .agg a.c] [sRow h m] fun r N => ∃ x : (Int × Int × Bool × Int) × GStep, cpM I D (L + 60) m x.2 ∧ r = .tup [.int .i64 x.1.1, .int .i64 x.1.2.1, .bool x.1.2.2.1, .int .i64 x.1.2.2.2] ∧ N = [sRow h x.2] := by
  obtain ⟨ak, aa, ar, av, an, ag⟩ := a
  simp only at hn
  subst hn
  refine EC.finKE ?_
  (refine nW E_ok call_121 Tryz.func121 Tryz.ntmps121 Tryz.results121 ?_)
  have hl := hm.sl (by omega)
  have hfl := hm.fl
  have htl : m.o.Process.Table.length ≤ 1000000 := hm.ob.sm.1.2.2.2.2
  (repeat' (first | (with_reducible intro hh; (first | subst hh | (revert hh; with_reducible intro _))) | with_reducible apply And.intro | refine eK E_ok ?_ | (refine aE 0 (ec_st_slots19 h m _ rfl hm (by omega)) rfl ?_; rintro ⟨_, _, _⟩ _) | refine wA E_ok ?_ | exact trivial | contradiction)) <;> (first | (exact ⟨((_, _, _, _), _), ‹cpM I D (L + 60) m _›, Lk.t4 (FkA.int rfl) (FkA.int rfl) (FkA.bool rfl) (FkA.int rfl), rfl⟩) | skip)
theorem ec_st_call20 (h : RowH) (m : GStep) (a : GAction) (hn : a.Number = 20) (hm : okM I D L m) (hL : L ≤ 700000) : EC Tryz.prog 121 [.rptr 0 h 41 0 0, .agg a.c] [sRow h m] fun r N => ∃ x : (Int × Int × Bool × Int) × GStep, cpM I D (L + 60) m x.2 ∧ r = .tup [.int .i64 x.1.1, .int .i64 x.1.2.1, .bool x.1.2.2.1, .int .i64 x.1.2.2.2] ∧ N = [sRow h x.2] := by
  obtain ⟨ak, aa, ar, av, an, ag⟩ := a
  simp only at hn
  subst hn
  refine EC.finKE ?_
  (refine nW E_ok call_121 Tryz.func121 Tryz.ntmps121 Tryz.results121 ?_)
  have hl := hm.sl (by omega)
  have hfl := hm.fl
  have htl : m.o.Process.Table.length ≤ 1000000 := hm.ob.sm.1.2.2.2.2
  (repeat' (first | (with_reducible intro hh; (first | subst hh | (revert hh; with_reducible intro _))) | with_reducible apply And.intro | refine eK E_ok ?_ | (refine aE 0 (ec_st_slots20 h m _ rfl hm (by omega)) rfl ?_; rintro ⟨_, _, _⟩ _) | refine wA E_ok ?_ | exact trivial | contradiction)) <;> (first | (exact ⟨((_, _, _, _), _), ‹cpM I D (L + 60) m _›, Lk.t4 (FkA.int rfl) (FkA.int rfl) (FkA.bool rfl) (FkA.int rfl), rfl⟩) | skip)
theorem ec_st_call21 (h : RowH) (m : GStep) (a : GAction) (hn : a.Number = 21) (hm : okM I D L m) (hL : L ≤ 700000) : EC Tryz.prog 121 [.rptr 0 h 41 0 0, .agg a.c] [sRow h m] fun r N => ∃ x : (Int × Int × Bool × Int) × GStep, cpM I D (L + 60) m x.2 ∧ r = .tup [.int .i64 x.1.1, .int .i64 x.1.2.1, .bool x.1.2.2.1, .int .i64 x.1.2.2.2] ∧ N = [sRow h x.2] := by
  obtain ⟨ak, aa, ar, av, an, ag⟩ := a
  simp only at hn
  subst hn
  refine EC.finKE ?_
  (refine nW E_ok call_121 Tryz.func121 Tryz.ntmps121 Tryz.results121 ?_)
  have hl := hm.sl (by omega)
  have hfl := hm.fl
  have htl : m.o.Process.Table.length ≤ 1000000 := hm.ob.sm.1.2.2.2.2
  (repeat' (first | (with_reducible intro hh; (first | subst hh | (revert hh; with_reducible intro _))) | with_reducible apply And.intro | refine eK E_ok ?_ | refine EC.use (ec_ref15_Set _ _) ?_ | refine dM E_ok 10 [0, 1, 2, 3, 4, 5, 6, 7, 8, 9, 10, 11, 12, 13] [0, 1, 2, 3, 5, 6] fol fun R hR => ?_ | refine ed2 E_ok 4 7 ?_ ?_ | refine ed1 E_ok 7 ?_ | refine ed1 E_ok 4 ?_ | refine dR E_ok [8, 9, 10, 11, 12, 13, 14, 15] ?_ | refine dR E_ok [9, 10, 11, 12, 13, 14, 15] ?_ | (refine hR _ _ ?_; refine sA ?_) | refine wA E_ok ?_ | exact trivial | contradiction)) <;> (first | (exact ⟨((_, _, _, _), { m with o := { m.o with Process := (almSet m.o.Process ag.x0).2.1 } }), cpM.of (kpM.alm hm (eq_of_beq ‹_›)) (by omega), Lk.t4 (FkA.int rfl) (FkA.int rfl) (FkA.bool rfl) (FkA.int rfl), rfl⟩) | (exact ⟨((_, _, _, _), _), cpM.refl hm (by omega), Lk.t4 (FkA.int rfl) (FkA.int rfl) (FkA.bool rfl) (FkA.int rfl), rfl⟩) | skip)
theorem ec_st_call22 (h : RowH) (m : GStep) (a : GAction) (hn : a.Number = 22) (hm : okM I D L m) (hL : L ≤ 700000) : EC Tryz.prog 121 [.rptr 0 h 41 0 0, .agg a.c] [sRow h m] fun r N => ∃ x : (Int × Int × Bool × Int) × GStep, cpM I D (L + 60) m x.2 ∧ r = .tup [.int .i64 x.1.1, .int .i64 x.1.2.1, .bool x.1.2.2.1, .int .i64 x.1.2.2.2] ∧ N = [sRow h x.2] := by
  obtain ⟨ak, aa, ar, av, an, ag⟩ := a
  simp only at hn
  subst hn
  refine EC.finKE ?_
  (refine nW E_ok call_121 Tryz.func121 Tryz.ntmps121 Tryz.results121 ?_)
  have hl := hm.sl (by omega)
  have hfl := hm.fl
  have htl : m.o.Process.Table.length ≤ 1000000 := hm.ob.sm.1.2.2.2.2
  (repeat' (first | (with_reducible intro hh; (first | subst hh | (revert hh; with_reducible intro _))) | with_reducible apply And.intro | refine eK E_ok ?_ | refine wA E_ok ?_ | exact trivial | contradiction)) <;> (first | (exact ⟨((_, _, _, _), _), cpM.refl hm (by omega), Lk.t4 (FkA.int rfl) (FkA.int rfl) (FkA.bool rfl) (FkA.int rfl), rfl⟩) | skip)
theorem ec_st_call23 (h : RowH) (m : GStep) (a : GAction) (hn : a.Number = 23) (hm : okM I D L m) (hL : L ≤ 700000) (hu : m.out.Used = 0) (hf : 1 ≤ m.fresh.length) : EC Tryz.prog 121 [.rptr 0 h 41 0 0, .agg a.c] [sRow h m] fun r N => ∃ x : (Int × Int × Bool × Int) × GStep, cpM I D (L + 60) m x.2 ∧ r = .tup [.int .i64 x.1.1, .int .i64 x.1.2.1, .bool x.1.2.2.1, .int .i64 x.1.2.2.2] ∧ N = [sRow h x.2] := by
  obtain ⟨ak, aa, ar, av, an, ag⟩ := a
  simp only at hn
  subst hn
  refine EC.finKE ?_
  (refine nW E_ok call_121 Tryz.func121 Tryz.ntmps121 Tryz.results121 ?_)
  have hl := hm.sl (by omega)
  have hfl := hm.fl
  have htl : m.o.Process.Table.length ≤ 1000000 := hm.ob.sm.1.2.2.2.2
  (repeat' (first | (with_reducible intro hh; (first | subst hh | (revert hh; with_reducible intro _))) | with_reducible apply And.intro | refine eK E_ok ?_ | (refine aE 0 (ec_st_named h m _ hm hL hu hf) rfl ?_; rintro ⟨_, _, _⟩ _) | refine wA E_ok ?_ | exact trivial | contradiction)) <;> (first | (exact ⟨((_, _, _, _), _), ‹cpM I D (L + 60) m _›, Lk.t4 (FkA.int rfl) (FkA.int rfl) (FkA.bool rfl) (FkA.int rfl), rfl⟩) | skip)
theorem ec_st_call24 (h : RowH) (m : GStep) (a : GAction) (hn : a.Number = 24) (hm : okM I D L m) (hL : L ≤ 700000) : EC Tryz.prog 121 [.rptr 0 h 41 0 0, .agg a.c] [sRow h m] fun r N => ∃ x : (Int × Int × Bool × Int) × GStep, cpM I D (L + 60) m x.2 ∧ r = .tup [.int .i64 x.1.1, .int .i64 x.1.2.1, .bool x.1.2.2.1, .int .i64 x.1.2.2.2] ∧ N = [sRow h x.2] := by
  obtain ⟨ak, aa, ar, av, an, ag⟩ := a
  simp only at hn
  subst hn
  refine EC.finKE ?_
  (refine nW E_ok call_121 Tryz.func121 Tryz.ntmps121 Tryz.results121 ?_)
  have hl := hm.sl (by omega)
  have hfl := hm.fl
  have htl : m.o.Process.Table.length ≤ 1000000 := hm.ob.sm.1.2.2.2.2
  (repeat' (first | (with_reducible intro hh; (first | subst hh | (revert hh; with_reducible intro _))) | with_reducible apply And.intro | refine eK E_ok ?_ | (refine aE 0 (ec_st_rename h m _ hm (by omega)) rfl ?_; rintro ⟨_, _⟩ _) | refine wA E_ok ?_ | exact trivial | contradiction)) <;> (first | (exact ⟨((_, _, _, _), _), cpM.of ‹kpM I D (L + 1) m _› (by omega), Lk.t4 (FkA.int rfl) (FkA.int rfl) (FkA.bool rfl) (FkA.int rfl), rfl⟩) | skip)
end
end Go.Proofs.YtfmldmafigpblaaGreatDoor
end
section
namespace Go.Proofs.YtfmldmafigpblaaGreatDoor
open Go.Lift
set_option linter.unusedSimpArgs false
set_option linter.unusedVariables false
set_option maxRecDepth 10000
set_option maxHeartbeats 1000000
section
variable {I D : Int → Prop} {L : Nat} {m : GStep}
def actB (a : GAction) : Prop := (a.Kind = 0 ∨ a.Kind = 1 ∨ a.Kind = 2 ∨ a.Kind = 3 ∨ a.Kind = 4) ∧ -9223372036854775808 ≤ a.Address ∧ a.Address ≤ 9223372036854775807
theorem actB_def : actB default := ⟨.inl rfl, by decide, by decide⟩
theorem actB_F : actB actF := ⟨.inr (.inr (.inr (.inr rfl))), by decide, by decide⟩
theorem threeC_act (c : GCPU) (x : GInstr) : actB (threeC c x).2 := by
  generalize h : threeC c x = q
  unfold threeC at h
  repeat' split at h
  all_goals subst h
  all_goals first | exact actB_F | exact actB_def
theorem nextX_act (c : GCPU) (x : GInstr) : actB (nextX c x).2 := by
  generalize h : nextX c x = q
  unfold nextX at h
  repeat' split at h
  all_goals subst h
  all_goals first | exact threeC_act _ _ | exact actB_F | exact actB_def | exact ⟨.inr (.inl rfl), i64_rg _⟩ | exact ⟨.inr (.inr (.inl rfl)), i64_rg _⟩ | exact ⟨.inr (.inr (.inr (.inl rfl))), by show (-9223372036854775808 : Int) ≤ 0 ∧ (0 : Int) ≤ 9223372036854775807; decide⟩
theorem nextC_act (c : GCPU) (p : GProgram) : actB (nextC c p).2 := by
  unfold nextC
  split
  · exact actB_F
  · exact nextX_act _ _
structure callPre (m : GStep) (a : GAction) : Prop where
  fk : a.Number = 3 → m.fresh.length = 1 + (spPriv m.o.Process.Pages).length
  op : a.Number = 7 → (if a.Args.x1 = 1 then 2 else 1) ≤ m.fresh.length
  mp : a.Number = 16 → 1 ≤ a.Args.x1 ∧ a.Args.x1 ≤ 16 → a.Args.x1.toNat ≤ m.fresh.length
  one : a.Number = 13 ∨ a.Number = 17 ∨ a.Number = 18 ∨ a.Number = 23 → 1 ≤ m.fresh.length
theorem callPre.of {m : GStep} {o : GObject} (ho : m.o = o) (h1 : prB o = true) (h2 : o.Process.State = 1) (h3 : (actO o).Kind = 3) (hl : (m.fresh.length : Int) = freshN o) : callPre m (actO o) := by
  subst ho
  have e : freshN m.o = freshA m.o (actO m.o) := by unfold freshN; rw [if_neg]; simp [h1, h2]
  rw [e] at hl
  generalize actO m.o = a at h3 hl
  unfold freshA at hl
  rw [if_neg (by simp [h3])] at hl
  refine ⟨fun h => ?_, fun h => ?_, fun h h4 => ?_, fun h => ?_⟩
  · rw [if_pos (by simp [h])] at hl; omega
  · rw [if_neg (by simp [h]), if_pos (by simp [h])] at hl
    by_cases h5 : a.Args.x1 = 1
    · rw [if_pos h5]; rw [if_pos (by simp [h5])] at hl; omega
    · rw [if_neg h5]; rw [if_neg (by simp [h5])] at hl; omega
  · rw [if_neg (by simp [h]), if_neg (by simp [h]), if_neg (by simp [h]), if_pos (by simp [h]), if_pos (by simp [h4])] at hl
    omega
  · rw [if_neg (by simp; omega), if_neg (by simp; omega), if_pos (by simp; omega)] at hl
    omega
attribute [local irreducible] EC EV getS putS remS putM cpM kpM takeM textM slotM semNew
theorem ec_st_call (h : RowH) (m : GStep) (a : GAction) (hm : okM I D L m) (hL : L ≤ 700000) (hu : m.out.Used = 0) (hp : callPre m a) : EC Tryz.prog 121 [.rptr 0 h 41 0 0, .agg a.c] [sRow h m] fun r N => ∃ x : (Int × Int × Bool × Int) × GStep, cpM I D (L + 60) m x.2 ∧ r = .tup [.int .i64 x.1.1, .int .i64 x.1.2.1, .bool x.1.2.2.1, .int .i64 x.1.2.2.2] ∧ N = [sRow h x.2] := by
  by_cases h2 : a.Number = 2
  · exact ec_st_call2 h m a h2 hm hL
  by_cases h3 : a.Number = 3
  · exact ec_st_call3 h m a h3 hm hL hu (hp.fk h3)
  by_cases h4 : a.Number = 4
  · exact ec_st_call4 h m a h4 hm hL
  by_cases h5 : a.Number = 5
  · exact ec_st_call5 h m a h5 hm hL
  by_cases h6 : a.Number = 6
  · exact ec_st_call6 h m a h6 hm hL
  by_cases h7 : a.Number = 7
  · exact ec_st_call7 h m a h7 hm hL hu (hp.op h7)
  by_cases h8 : a.Number = 8
  · exact ec_st_call8 h m a h8 hm hL
  by_cases h9 : a.Number = 9
  · exact ec_st_call9 h m a h9 hm hL
  by_cases h10 : a.Number = 10
  · exact ec_st_call10 h m a h10 hm hL
  by_cases h11 : a.Number = 11
  · exact ec_st_call11 h m a h11 hm hL
  by_cases h12 : a.Number = 12
  · exact ec_st_call12 h m a h12 hm hL
  by_cases h13 : a.Number = 13
  · exact ec_st_call13 h m a h13 hm hL hu (hp.one (by omega))
  by_cases h14 : a.Number = 14
  · exact ec_st_call14 h m a h14 hm hL
  by_cases h15 : a.Number = 15
  · exact ec_st_call15 h m a h15 hm hL
  by_cases h16 : a.Number = 16
  · exact ec_st_call16 h m a h16 hm hL hu (hp.mp h16)
  by_cases h17 : a.Number = 17
  · exact ec_st_call17 h m a h17 hm hL hu (hp.one (by omega))
  by_cases h18 : a.Number = 18
  · exact ec_st_call18 h m a h18 hm hL hu (hp.one (by omega))
  by_cases h19 : a.Number = 19
  · exact ec_st_call19 h m a h19 hm hL
  by_cases h20 : a.Number = 20
  · exact ec_st_call20 h m a h20 hm hL
  by_cases h21 : a.Number = 21
  · exact ec_st_call21 h m a h21 hm hL
  by_cases h22 : a.Number = 22
  · exact ec_st_call22 h m a h22 hm hL
  by_cases h23 : a.Number = 23
  · exact ec_st_call23 h m a h23 hm hL hu (hp.one (by omega))
  by_cases h24 : a.Number = 24
  · exact ec_st_call24 h m a h24 hm hL
  refine EC.finKE ?_
  (refine nW E_ok call_121 Tryz.func121 Tryz.ntmps121 Tryz.results121 ?_)
  have e2 : (a.Number == 2) = false := by simpa using h2
  have e3 : (a.Number == 3) = false := by simpa using h3
  have e4 : (a.Number == 4) = false := by simpa using h4
  have e5 : (a.Number == 5) = false := by simpa using h5
  have e6 : (a.Number == 6) = false := by simpa using h6
  have e7 : (a.Number == 7) = false := by simpa using h7
  have e8 : (a.Number == 8) = false := by simpa using h8
  have e9 : (a.Number == 9) = false := by simpa using h9
  have e10 : (a.Number == 10) = false := by simpa using h10
  have e11 : (a.Number == 11) = false := by simpa using h11
  have e12 : (a.Number == 12) = false := by simpa using h12
  have e13 : (a.Number == 13) = false := by simpa using h13
  have e14 : (a.Number == 14) = false := by simpa using h14
  have e15 : (a.Number == 15) = false := by simpa using h15
  have e16 : (a.Number == 16) = false := by simpa using h16
  have e17 : (a.Number == 17) = false := by simpa using h17
  have e18 : (a.Number == 18) = false := by simpa using h18
  have e19 : (a.Number == 19) = false := by simpa using h19
  have e20 : (a.Number == 20) = false := by simpa using h20
  have e21 : (a.Number == 21) = false := by simpa using h21
  have e22 : (a.Number == 22) = false := by simpa using h22
  have e23 : (a.Number == 23) = false := by simpa using h23
  have e24 : (a.Number == 24) = false := by simpa using h24
  simp only [e2, e3, e4, e5, e6, e7, e8, e9, e10, e11, e12, e13, e14, e15, e16, e17, e18, e19, e20, e21, e22, e23, e24, push_cast, simprocAttr]
  intro fr
  exact ⟨((_, _, _, _), _), cpM.refl hm (by omega), Lk.t4 (FkA.int rfl) (FkA.int rfl) (FkA.bool rfl) (FkA.int rfl), rfl⟩
theorem ec_ref20_fresh (s : GStore) (l : List Int) (hs : s.Objects.length ≤ 1000000) (hl : l.length ≤ 1000000) : EC Tryz.prog 113 [.agg s.c, slL 1 (intC .u64) default l] [] fun r N => N = [] ∧ ∃ b : Bool, True ∧ r = .bool b := by
  refine EC.finKP ?_
  (refine nW E_ok call_113 Tryz.func113 Tryz.ntmps113 Tryz.results113 ?_)
  intro fr
  refine EV_loopW E_ok [1, 2, 9, 10] (fun i : Nat => [(11, .int .i64 i)]) (fun B _ => B) (fun i => i ≤ l.length) (fun i => l.length - i) 0 (Nat.zero_le _) ?_
  rintro i hi
  replace hi : i ≤ l.length := hi
  have hw : IntKind.i64.wrap ((i : Int) + 1) = ((i + 1 : Nat) : Int) := by rw [i64_in' (by omega)]; omega
  simp only [hw, push_cast, simprocAttr]
  have hHas : ∀ x : Int, EC Tryz.prog 30 [SV.sl false 1 i (sub (elt (intC IntKind.u64) default l) l.length 0 i), .int .u64 x] [] fun r B => B = [] ∧ r = .bool (decide (x ∈ l.take i)) := fun x => by
    rw [sub_elt0 (fl := false) (e := 1) (c := intC .u64) (d := default) hi]
    exact ec_ref03_HasS (l.take i) x (by simp; omega)
  (repeat' (first | (with_reducible intro hh; (first | subst hh | (revert hh; with_reducible intro _))) | with_reducible apply And.intro | refine eK E_ok ?_ | refine EC.use (ec_ref18_Get s _ hs) ?_ | refine EC.use (hHas _) ?_ | refine wA E_ok ?_ | exact trivial | contradiction)) <;> (first | omega | assumption | (exact ⟨_, Lt.bool rfl⟩) | (simp only [hw]; exact NX_mk (i + 1) (by show i + 1 ≤ _; omega)) | (exfalso; simp_all; done) | skip)
theorem ec_ref20_alive (s : GStore) (id : Int) (hs : s.Objects.length ≤ 1000000) : EC Tryz.prog 106 [.agg s.c, .int .u64 id] [] fun r N => N = [] ∧ ∃ x : GObject × Int, (x.2 = 0 → x.1 = (getS s id).1 ∧ x.1.Kind = 1 ∧ x.1.Process.State ≠ 3) ∧ r = .tup [.agg x.1.c, .int .i64 x.2] := by
  refine EC.finKP ?_
  (refine nW E_ok call_106 Tryz.func106 Tryz.ntmps106 Tryz.results106 ?_)
  (repeat' (first | (with_reducible intro hh; (first | subst hh | (revert hh; with_reducible intro _))) | with_reducible apply And.intro | refine eK E_ok ?_ | refine EC.use (ec_ref18_Get s id hs) ?_ | refine wA E_ok ?_ | exact trivial | contradiction)) <;> (first | (exact ⟨(default, 6), ⟨fun e => by simp at e, Lt.t2 (FzA.aggO rfl) (FzA.intE rfl)⟩⟩) | (exact ⟨(default, 8), ⟨fun e => by simp at e, Lt.t2 (FzA.aggO rfl) (FzA.intE rfl)⟩⟩) | skip)
  · simp_all
  rename_i g1 g2
  exact ⟨((getS s id).1, 0), fun _ => ⟨rfl, by simp at g1; exact g1.2, by simpa using g2⟩, Lt.t2 (FzA.aggO rfl) (FzA.intE rfl)⟩
end
end Go.Proofs.YtfmldmafigpblaaGreatDoor
end
section
namespace Go.Proofs.YtfmldmafigpblaaGreatDoor
open Go.Lift
set_option linter.unusedSimpArgs false
set_option linter.unusedVariables false
set_option maxRecDepth 10000
set_option maxHeartbeats 1000000
section
variable {I D : Int → Prop} {L : Nat} {m : GStep}
def jt (I : Int → Prop) (ids : List Int) (u : Int) (x : Int) : Prop := I x ∨ x ∈ ids.take u.toNat
structure stepOk (I D : Int → Prop) (L : Nat) (ids : List Int) (s : GStore) (out : GOutcome) : Prop where
  us : 0 ≤ out.Used ∧ out.Used ≤ ids.length
  ex : ∃ D' : Int → Prop, (∀ y, D y → D' y) ∧ okS (jt I ids out.Used) D' s ∧ ∀ y, D' y → jt I ids out.Used y
  ln : s.Objects.length ≤ L + 61
structure newIds (I : Int → Prop) (ids : List Int) : Prop where
  ln : ids.length ≤ 64
  nz : ∀ x ∈ ids, x ≠ 0
  nf : ∀ x ∈ ids, ¬ I x
  nd : ids.Nodup
theorem newIds.take {I : Int → Prop} {ids : List Int} (h : newIds I ids) (k : Nat) : newIds I (ids.take k) :=
  ⟨by have := h.ln; simp; omega, fun x hx => h.nz x (List.mem_of_mem_take hx), fun x hx => h.nf x (List.mem_of_mem_take hx), h.nd.sublist (List.take_sublist _ _)⟩
def stM (s : GStore) (o : GObject) (l : List Int) : GStep := ⟨s, o, l, default⟩
theorem jm_st {s : GStore} {o : GObject} {l : List Int} : jm I (stM s o l) = I := by
  funext x
  unfold jm stM
  simp only [show (default : GOutcome).Used.toNat = 0 from rfl, List.take_zero, List.not_mem_nil, or_false]
theorem okM.start {s : GStore} {o : GObject} {l : List Int} (h0 : I 0) (hs : okS I D s) (hl : s.Objects.length ≤ L) (ho : okP I D o) (hi : newIds I l) (hd : ∀ x, D x → I x) : okM I D L (stM s o l) :=
  ⟨h0, by rw [jm_st]; exact hs, hl, by rw [jm_st]; exact ho, ⟨Int.le_refl _, Int.natCast_nonneg _⟩, hi.ln, hi.nz, hi.nf, hi.nd, fun x hx => by rw [jm_st]; exact hd x hx⟩
theorem stepOk.ofM {ids : List Int} {k : Nat} {m : GStep} {L' : Nat} (h : okM I D L' m) (hf : m.fresh = ids.take k) (hl : L' ≤ L + 61) {D0 : Int → Prop} (hd : ∀ y, D0 y → D y) : stepOk I D0 L ids m.s m.out := by
  have hu := h.us
  rw [hf] at hu
  have hu2 : m.out.Used ≤ ids.length ∧ m.out.Used.toNat ≤ k := by simp at hu; omega
  have e : jt I ids m.out.Used = jm I m := by
    funext x
    unfold jt jm
    rw [hf, List.take_take, Nat.min_eq_left hu2.2]
  refine ⟨⟨hu.1, hu2.1⟩, ⟨D, hd, by rw [e]; exact h.st, by rw [e]; exact h.dk⟩, Nat.le_trans h.ln hl⟩
theorem stepOk.ofE {ids : List Int} {s : GStore} {o : GObject} {l : List Int} {m : GStep} (h : endM I D (L + 60) (stM s o l) m) (hd : ∀ y, D y → I y) : stepOk I D L ids m.s m.out := by
  have hu : m.out.Used = 0 := h.us
  have e : jt I ids m.out.Used = I := by
    funext x
    unfold jt
    rw [hu]
    simp
  refine ⟨by rw [hu]; exact ⟨Int.le_refl _, Int.natCast_nonneg _⟩, ⟨D, fun _ h => h, ?_, by rw [e]; exact hd⟩, Nat.le_trans h.ln (by omega)⟩
  have h1 := h.st
  rw [jm_st] at h1
  rw [e]; exact h1
theorem stepOk.wait {ids : List Int} {s : GStore} (hs : okS I D s) (hl : s.Objects.length ≤ L) (hd : ∀ y, D y → I y) {out : GOutcome} (hu : out.Used = 0) : stepOk I D L ids s out := by
  have e : jt I ids out.Used = I := by
    funext x
    unfold jt
    rw [hu]
    simp
  exact ⟨by rw [hu]; exact ⟨Int.le_refl _, Int.natCast_nonneg _⟩, ⟨D, fun _ h => h, by rw [e]; exact hs, by rw [e]; exact hd⟩, by omega⟩
theorem FzA.aggS {B : List Own} {x y : GStore} (h : x = y) : FzA B (.agg x.c) (.agg y.c) := by subst h; exact FzA.agg (FzL.obj (cs := x.c) (fun s B => by rw [GStore.fk]) (fun s B => by rw [GStore.fz]))
theorem cpM.elim {m1 : GStep} (h : cpM I D L m m1) : ∃ D', okM I D' L m1 ∧ (∀ y, D y → D' y) ∧ m1.fresh = m.fresh ∧ m1.out.Waits = m.out.Waits := h
attribute [local irreducible] EC EV getS putS remS putM cpM kpM takeM textM slotM semNew freshN nextC
set_option maxHeartbeats 4000000 in
theorem ec_ref20_Step (s : GStore) (id : Int) (ids : List Int) (h0 : I 0) (hs : okS I D s) (hl : s.Objects.length ≤ L) (hL : L ≤ 600000) (hi : newIds I ids) (hd : ∀ x, D x → I x) : EC Tryz.prog 104 [.agg s.c, .int .u64 id, slL 1 (intC .u64) default ids] [] fun r N => N = [] ∧ ∃ x : GStore × GOutcome × Int, (x.2.2 = 0 → stepOk I D L ids x.1 x.2.1) ∧ r = .tup [.agg x.1.c, .agg x.2.1.c, .int .i64 x.2.2] := by
  refine EC.finKP ?_
  (refine nW E_ok call_104 Tryz.func104 Tryz.ntmps104 Tryz.results104 ?_)
  have hsl : s.Objects.length ≤ 1000000 := by omega
  have hil := hi.ln
  (repeat' (first | (with_reducible intro hh; (first | subst hh | (revert hh; with_reducible intro _))) | with_reducible apply And.intro | refine eK E_ok ?_ | (refine EC.useP (ec_ref20_alive s id hsl) ?_; rintro ⟨_, _⟩ _) | refine wA E_ok ?_ | exact trivial | contradiction))
  · rename_i o e hx fr1 he
    refine ⟨(default, default, e), fun e0 => ?_, Lt.t3 (FzA.agg (FzL.pl rfl)) (FzA.aggE rfl rfl) (FzA.intE rfl)⟩
    simp_all
  rename_i o e hx fr1 he
  obtain ⟨ho1, hk, hst⟩ := hx (by simpa using he)
  simp only at ho1 hk hst
  have ho : okO I D o := by rw [ho1]; exact hs.get h0
  have hpr := ho.pr hk
  have hP : okP I D o := ⟨ho, Liv.of hpr hst⟩
  have hfr := freshN_rg o
  have hFr := ec_ref19_Fresh o ho.sm ho.pd
  have hact := fun m : GStep => callPre.of (m := m) (o := o)
  generalize hn : freshN o = n at hfr hFr hact
  obtain ⟨k, rfl⟩ := Int.eq_ofNat_of_zero_le hfr.1
  have hw1 : IntKind.i64.wrap (ids.length : Int) = ids.length := i64_in' (by omega)
  have bad : ∀ (c : Int) (B : List Own), c ≠ 0 → ∃ x : GStore × GOutcome × Int, (x.2.2 = 0 → stepOk I D L ids x.1 x.2.1) ∧ Lt B (SV.tup [SV.agg (default : GStore).c, SV.agg (default : GOutcome).c, SV.int IntKind.i64 c]) (SV.tup [SV.agg x.1.c, SV.agg x.2.1.c, SV.int IntKind.i64 x.2.2]) := fun c B hc =>
    ⟨(default, default, c), fun e0 => absurd e0 hc, Lt.t3 (FzA.agg (FzL.pl rfl)) (FzA.aggE rfl rfl) (FzA.intE rfl)⟩
  (repeat' (first | (with_reducible intro hh; (first | subst hh | (revert hh; with_reducible intro _))) | with_reducible apply And.intro | refine eK E_ok ?_ | refine EC.use (hFr) ?_ | refine wA E_ok ?_ | exact trivial | contradiction)) <;> (first | (exact bad 2 _ (by decide)) | skip)
  rename_i hlt
  have hkl : k ≤ ids.length := by simp at hlt; omega
  have htn : (k : Int).toNat = k := Int.toNat_natCast k
  have hsub := sub_elt0 (fl := false) (e := 1) (c := intC .u64) (d := default) hkl
  have hFs : EC Tryz.prog 113 [.agg s.c, SV.sl false 1 k (sub (elt (intC IntKind.u64) default ids) ids.length 0 k)] [] fun r N => N = [] ∧ ∃ b : Bool, True ∧ r = .bool b := by
    rw [hsub]; exact ec_ref20_fresh s (ids.take k) hsl (by simp; omega)
  have hm0 := okM.start (L := L) (l := ids.take k) h0 hs hl hP (hi.take k) hd
  have hm0f : (stM s o (ids.take k)).fresh = ids.take k := rfl
  have hm0l : (ids.take k).length = k := by simp; omega
  refine EV_meetW (σ := Bool) [2, 3, 6, 7, 9, 11] (fun b => [(43, .bool !b)]) (fun B _ => B) (fun _ => True) ?_ ?_
  rotate_left 1
  · (repeat' (first | (with_reducible intro hh; (first | subst hh | (revert hh; with_reducible intro _))) | with_reducible apply And.intro | refine eK E_ok ?_ | (refine EC.useP (hFs) ?_; rintro _ _) | refine dN E_ok [] [] [0, 1, 2, 3, 4, 5] fol fun R hR => ?_ | refine dR E_ok [5] ?_ | (refine hR _ _ ?_; refine sA ?_) | refine wA E_ok ?_ | exact trivial | contradiction)) <;> (first | omega | (exact MT_mk _ trivial) | skip)
  rintro b -
  simp only [keepS, lkp, push_cast, simprocAttr]
  (repeat' (first | (with_reducible intro hh; (first | subst hh | (revert hh; with_reducible intro _))) | with_reducible apply And.intro | refine eK E_ok ?_ | refine wA E_ok ?_ | exact trivial | contradiction)) <;> (first | (exact bad 15 _ (by decide)) | skip)
  refine EV_meetW (σ := RowH) [2, 3, 6, 7, 9, 11] (fun r => [(12, .rptr 4 r 41 0 0)]) (fun B r => B ++ [.row r 180 41 [(stM s o (ids.take k)).c]]) (fun _ => True) ?_ ?_
  rotate_left 1
  · (repeat' (first | (with_reducible intro hh; (first | subst hh | (revert hh; with_reducible intro _))) | with_reducible apply And.intro | refine eK E_ok ?_ | refine dM E_ok 5 [0, 1, 2, 3, 4, 5, 6, 7, 8, 9, 10, 11, 12, 13] [2, 3, 4] fol fun R hR => ?_ | refine ed2 E_ok 0 1 ?_ ?_ | refine ed1 E_ok 1 ?_ | refine ed1 E_ok 0 ?_ | refine dR E_ok [5, 6, 7] ?_ | (refine hR _ _ ?_; refine sA ?_) | refine wA E_ok ?_ | exact trivial | contradiction)) <;> (first | omega | (refine MT_mk (B' := _) _ trivial (hb := ?_); rw [hsub]; rfl) | skip)
  rintro h4 -
  simp only [keepS, lkp, push_cast, simprocAttr]
  generalize hm : stM s o (ids.take k) = m0 at hm0 hm0f
  have hmo : m0.o = o := by rw [← hm]; rfl
  have fin : ∀ (m : GStep) (B : List Own), stepOk I D L ids m.s m.out → ∃ x : GStore × GOutcome × Int, (x.2.2 = 0 → stepOk I D L ids x.1 x.2.1) ∧ Lt B (SV.tup [SV.agg m.s.c, SV.agg m.out.c, SV.int IntKind.i64 0]) (SV.tup [SV.agg x.1.c, SV.agg x.2.1.c, SV.int IntKind.i64 x.2.2]) := fun m B hc =>
    ⟨(m.s, m.out, 0), fun _ => hc, Lt.t3 (FzA.aggS rfl) (FzA.aggE rfl rfl) (FzA.intE rfl)⟩
  have he0 : ∀ m1, endM I D (L + 60) m0 m1 → stepOk I D L ids m1.s m1.out := fun m1 h => by rw [← hm] at h; exact stepOk.ofE h hd
  (repeat' (first | (with_reducible intro hh; (first | subst hh | (revert hh; with_reducible intro _))) | with_reducible apply And.intro | refine eK E_ok ?_ | refine wA E_ok ?_ | exact trivial | contradiction))
  · (repeat' (first | (with_reducible intro hh; (first | subst hh | (revert hh; with_reducible intro _))) | with_reducible apply And.intro | refine eK E_ok ?_ | (refine aE 4 (ec_st_end h4 m0 _ hm0 (by omega)) rfl ?_; rintro ⟨_, _⟩ _) | refine dM E_ok 5 [0, 1, 2, 3, 4, 5, 6, 7, 8, 9, 10, 11, 12, 13] [0, 1, 2, 4, 5, 6] fol fun R hR => ?_ | refine ed2 E_ok 3 7 ?_ ?_ | refine ed2 E_ok 7 8 ?_ ?_ | refine ed1 E_ok 3 ?_ | refine dR E_ok [8, 9, 10] ?_ | refine ed1 E_ok 7 ?_ | refine dR E_ok [9, 10] ?_ | (refine hR _ _ ?_; refine sA ?_) | refine wA E_ok ?_ | exact trivial | contradiction)) <;> (first | (exact fin _ _ (he0 _ ‹_›)) | skip)
  rename_i h2
  have h1 : o.Process.State = 1 := by have := hP.lv.st; simp at h2; omega
  have hact2 := nextC_act o.Process.CPU o.Process.Program
  have hact3 : (nextC o.Process.CPU o.Process.Program).2 = actO o := rfl
  have hNx := ec_ref05_Next o.Process.CPU o.Process.Program
  generalize nextC o.Process.CPU o.Process.Program = q at hact2 hact3 hNx
  obtain ⟨c, a⟩ := q
  simp only at hact3
  have hcpu : ∀ m1 {L'} {D'} (c : GCPU), okM I D' L' m1 → L' ≤ L + 60 → m1.fresh = (ids.take k).take (m1.fresh.length) ∨ m1.fresh = ids.take k → (∀ y, D y → D' y) → stepOk I D L ids (putM { m1 with o := { m1.o with Process := { m1.o.Process with CPU := c } } } { m1.o with Process := { m1.o.Process with CPU := c } }).s (putM { m1 with o := { m1.o with Process := { m1.o.Process with CPU := c } } } { m1.o with Process := { m1.o.Process with CPU := c } }).out := fun m1 L' D' c h1 hl1 hf1 hd1 => by
    have h2 := (kpM.refl h1 (Nat.le_refl _)).cpu c
    rcases hf1 with hf1 | hf1
    · exact stepOk.ofM (k := min m1.fresh.length k) h2.ok (h2.same.1.trans (by rw [← List.take_take]; exact hf1)) (by omega) hd1
    · exact stepOk.ofM (k := k) h2.ok (h2.same.1.trans hf1) (by omega) hd1
  obtain ⟨ak, aa, ar, av, an, ag⟩ := a
  obtain ⟨hak, haa⟩ := hact2
  replace hak : ak = 0 ∨ ak = 1 ∨ ak = 2 ∨ ak = 3 ∨ ak = 4 := hak
  have hl0 : m0.s.Objects.length ≤ 1000000 := hm0.sl (by omega)
  have hu0 : m0.out.Used = 0 := by rw [← hm]; rfl
  rcases hak with rfl | rfl | rfl | rfl | rfl
  · (repeat' (first | (with_reducible intro hh; (first | subst hh | (revert hh; with_reducible intro _))) | with_reducible apply And.intro | refine eK E_ok ?_ | refine EC.use (hNx) ?_ | refine aX 4 (ec_st_put h4 _ _ (by exact hl0)) rfl ?_ | refine dM E_ok 5 [0, 1, 2, 3, 4, 5, 6, 7, 8, 9, 10, 11, 12, 13] [0, 1, 2, 4, 5, 6] fol fun R hR => ?_ | refine ed2 E_ok 3 7 ?_ ?_ | refine ed2 E_ok 7 8 ?_ ?_ | refine ed1 E_ok 3 ?_ | refine dR E_ok [8, 9, 10] ?_ | refine ed1 E_ok 7 ?_ | refine dR E_ok [9, 10] ?_ | (refine hR _ _ ?_; refine sA ?_) | refine wA E_ok ?_ | exact trivial | contradiction)) <;> (first | (exact fin _ _ (hcpu m0 c hm0 (by omega) (.inr hm0f) (fun _ h => h))) | skip)
  · (repeat' (first | (with_reducible intro hh; (first | subst hh | (revert hh; with_reducible intro _))) | with_reducible apply And.intro | refine eK E_ok ?_ | refine EC.use (hNx) ?_ | (refine aE 4 (ec_st_memory h4 m0 _ _ hm0 (by omega) haa) rfl ?_; rintro ⟨_, _⟩ _) | refine dM E_ok 5 [0, 1, 2, 3, 4, 5, 6, 7, 8, 9, 10, 11, 12, 13] [0, 1, 2, 4, 5, 6] fol fun R hR => ?_ | refine ed2 E_ok 3 7 ?_ ?_ | refine ed2 E_ok 7 8 ?_ ?_ | refine ed1 E_ok 3 ?_ | refine dR E_ok [8, 9, 10] ?_ | refine ed1 E_ok 7 ?_ | refine dR E_ok [9, 10] ?_ | (refine hR _ _ ?_; refine sA ?_) | refine wA E_ok ?_ | exact trivial | contradiction)) <;> (first | (exact fin _ _ (he0 _ ‹_›)) | skip)
  · (repeat' (first | (with_reducible intro hh; (first | subst hh | (revert hh; with_reducible intro _))) | with_reducible apply And.intro | refine eK E_ok ?_ | refine EC.use (hNx) ?_ | (refine aE 4 (ec_st_memory h4 m0 _ _ hm0 (by omega) haa) rfl ?_; rintro ⟨_, _⟩ _) | refine dM E_ok 5 [0, 1, 2, 3, 4, 5, 6, 7, 8, 9, 10, 11, 12, 13] [0, 1, 2, 4, 5, 6] fol fun R hR => ?_ | refine ed2 E_ok 3 7 ?_ ?_ | refine ed2 E_ok 7 8 ?_ ?_ | refine ed1 E_ok 3 ?_ | refine dR E_ok [8, 9, 10] ?_ | refine ed1 E_ok 7 ?_ | refine dR E_ok [9, 10] ?_ | (refine hR _ _ ?_; refine sA ?_) | refine wA E_ok ?_ | exact trivial | contradiction)) <;> (first | (exact fin _ _ (he0 _ ‹_›)) | skip)
  rotate_left 1
  · (repeat' (first | (with_reducible intro hh; (first | subst hh | (revert hh; with_reducible intro _))) | with_reducible apply And.intro | refine eK E_ok ?_ | refine EC.use (hNx) ?_ | (refine aE 4 (ec_st_end h4 m0 _ hm0 (by omega)) rfl ?_; rintro ⟨_, _⟩ _) | refine dM E_ok 5 [0, 1, 2, 3, 4, 5, 6, 7, 8, 9, 10, 11, 12, 13] [0, 1, 2, 4, 5, 6] fol fun R hR => ?_ | refine ed2 E_ok 3 7 ?_ ?_ | refine ed2 E_ok 7 8 ?_ ?_ | refine ed1 E_ok 3 ?_ | refine dR E_ok [8, 9, 10] ?_ | refine ed1 E_ok 7 ?_ | refine dR E_ok [9, 10] ?_ | (refine hR _ _ ?_; refine sA ?_) | refine wA E_ok ?_ | exact trivial | contradiction)) <;> (first | (exact fin _ _ (he0 _ ‹_›)) | skip)
  have hpre : callPre m0 ⟨3, aa, ar, av, an, ag⟩ := by
    have := hact m0 hmo hpr h1 (by rw [← hact3]) (by rw [hm0f, hm0l])
    rw [← hact3] at this; exact this
  (repeat' (first | (with_reducible intro hh; (first | subst hh | (revert hh; with_reducible intro _))) | with_reducible apply And.intro | refine eK E_ok ?_ | refine EC.use (hNx) ?_ | (refine aE 4 (ec_st_end h4 m0 _ hm0 (by omega)) rfl ?_; rintro ⟨_, _⟩ _) | refine dM E_ok 5 [0, 1, 2, 3, 4, 5, 6, 7, 8, 9, 10, 11, 12, 13] [0, 1, 2, 4, 5, 6] fol fun R hR => ?_ | refine ed2 E_ok 3 7 ?_ ?_ | refine ed2 E_ok 7 8 ?_ ?_ | refine ed1 E_ok 3 ?_ | refine dR E_ok [8, 9, 10] ?_ | refine ed1 E_ok 7 ?_ | refine dR E_ok [9, 10] ?_ | (refine hR _ _ ?_; refine sA ?_) | refine wA E_ok ?_ | exact trivial | contradiction)) <;> (first | (exact fin _ _ (he0 _ ‹_›)) | skip)
  refine EC.useAtK E_ok 4 (ec_st_call h4 m0 _ hm0 (by omega) hu0 hpre) rfl (by (repeat (first | exact LLe.nil | refine LLe.cons (SLe.refl _) ?_ | refine LLe.cons SLe.rptr ?_))) ?_
  rintro ⟨⟨r0, r1, two, e⟩, m2⟩ hx2
  obtain ⟨D', hm2, hd2, hf2, -⟩ : ∃ D', okM I D' (L + 60) m2 ∧ (∀ y, D y → D' y) ∧ m2.fresh = m0.fresh ∧ m2.out.Waits = m0.out.Waits := cpM.elim hx2
  have hl2 : m2.s.Objects.length ≤ 1000000 := hm2.sl (by omega)
  have hE : okM I D L (stM s o []) := okM.start h0 hs hl hP ⟨Nat.zero_le _, fun x hx => (nomatch hx), fun x hx => (nomatch hx), List.nodup_nil⟩ hd
  simp only [push_cast, simprocAttr]
  (repeat' (first | (with_reducible intro hh; (first | subst hh | (revert hh; with_reducible intro _))) | with_reducible apply And.intro | refine eK E_ok ?_ | refine EC.use (ec_ref05_Returned _ _) ?_ | refine EC.use (ec_ref05_Returned2 _ _ _) ?_ | refine aX 4 (ec_st_put h4 _ _ (by exact hl2)) rfl ?_ | refine aX 7 (ec_st_put _ _ _ (by exact hsl)) rfl ?_ | refine dM E_ok 5 [0, 1, 2, 3, 4, 5, 6, 7, 8, 9, 10, 11, 12, 13] [0, 1, 2, 4, 5, 6] fol fun R hR => ?_ | refine ed2 E_ok 3 7 ?_ ?_ | refine ed2 E_ok 7 8 ?_ ?_ | refine ed1 E_ok 3 ?_ | refine dR E_ok [8, 9, 10] ?_ | refine ed1 E_ok 7 ?_ | refine dR E_ok [9, 10] ?_ | (refine hR _ _ ?_; refine sA ?_) | refine wA E_ok ?_ | exact trivial | contradiction)) <;> (first | (exact ⟨(s, { (default : GOutcome) with Waits := true }, 0), fun _ => stepOk.wait hs hl hd rfl, Lt.t3 (FzA.aggS rfl) (FzA.aggE rfl rfl) (FzA.intE rfl)⟩) | (exact fin _ _ (hcpu m2 _ hm2 (Nat.le_refl _) (.inr (hf2.trans hm0f)) hd2)) | (exact fin _ _ (hcpu (stM s o []) _ hE (by omega) (.inl rfl) (fun _ h => h))) | skip)
end
end Go.Proofs.YtfmldmafigpblaaGreatDoor
end
