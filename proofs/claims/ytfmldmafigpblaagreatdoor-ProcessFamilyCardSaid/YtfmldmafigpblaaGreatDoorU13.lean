/- Part 13: LmA, LmB, LmC. -/
import Derived.Test.YtfmldmafigpblaaGreatDoorU06
import Derived.Test.YtfmldmafigpblaaGreatDoorU10
import Derived.Test.YtfmldmafigpblaaGreatDoorU12
section
namespace Go.Proofs.YtfmldmafigpblaaGreatDoor
open Go.Lift
set_option linter.unusedSimpArgs false
set_option linter.unusedVariables false
set_option maxRecDepth 10000
set_option maxHeartbeats 4000000
theorem okK.obj {L S : Nat} {k : GKernel} (h : okK L S k) {o : GObject} (ho : o ∈ k.Store.Objects) : smallO o ∧ pendO o := by
  obtain ⟨D, h1, _⟩ := h.ex
  exact ⟨(h1 o ho).sm, (h1 o ho).pd⟩
theorem md16.obj {o : GObject} {k : GKernel} (h : md16 o k) : smallO o ∧ pendO o := by
  rcases h.pr with rfl | ⟨h1, _⟩
  · exact ⟨small_def, pend_def⟩
  · exact h.kn.obj h1
theorem small_reap {o c : GObject} (ho : smallO o) : smallO (reapO o c).1 := by
  unfold reapO
  split
  · exact small_def
  split
  · exact small_def
  split
  · exact small_def
  · refine ⟨⟨?_, ho.1.2⟩, ho.2⟩
    show (o.Process.Children.eraseIdx _).length ≤ _
    exact Nat.le_trans (List.length_eraseIdx_le _ _) ho.1.1
attribute [local irreducible] EC EV reapR reapO keepO
theorem ec_Reaps (a b : GObject) (l : List Int) (ha1 : a.Names.length ≤ 9223372036854775807) (ha2 : a.Process.Program.Strings.length ≤ 9223372036854775807) (hb1 : b.Names.length ≤ 9223372036854775807) (hb2 : b.Process.Program.Strings.length ≤ 9223372036854775807) (hpa : pendO a) (hpb : pendO b) (hl : ∀ y ∈ l, 0 ≤ y ∧ y ≤ 255) : EC Tryz.prog 3 [.agg a.c, .agg b.c, slL 1 (intC .u8) default l] [] fun r N => N = [] ∧ r = .bool true := by
  refine EC.finK ?_
  (refine nW E_ok call_3 Tryz.func3 Tryz.ntmps3 Tryz.results3 ?_)
  (repeat' (first | (with_reducible intro hh; (first | subst hh | (revert hh; with_reducible intro _))) | with_reducible apply And.intro | refine eK E_ok ?_ | refine EC.use (ec_sane) ?_ | refine EC.use (ec_keep_Object a ha1 ha2) ?_ | refine EC.use (ec_keep_Object b hb1 hb2) ?_ | refine wA E_ok ?_ | exact trivial | contradiction)) <;> (first | (exact Lt.bool rfl) | assumption | (exfalso; simp_all; done) | skip)
  rename_i f0 hka hkb
  have hsa : smallO a := keepO_small hka
  have hsb : smallO b := keepO_small (by simpa [hka] using hkb)
  refine EC.useN (σ := RowH × GObject × GKernel × WD) (R := fun s i => .tup [.agg s.2.1.c, .agg s.2.2.1.c, .rptr i s.1 1 0 0]) (N := fun s => [dRow s.1 s.2.2.2.1]) (ec_made16 l hl) (fun _ _ => SLe.tup (.cons (SLe.refl _) (.cons (SLe.refl _) (.cons SLe.rptr .nil)))) ?_
  rintro ⟨h, o, k, d⟩ hk
  simp only at hk
  have hln := hk.kn.ln
  refine EOK_run (m := 0) E_ok ?_
  simp only [push_cast, simprocAttr]
  (repeat' (first | (with_reducible intro hh; (first | subst hh | (revert hh; with_reducible intro _))) | with_reducible apply And.intro | refine eK E_ok ?_ | refine wA E_ok ?_ | exact trivial | contradiction)) <;> (first | omega | skip)
  rename_i f1 f2
  have hall : ∀ x ∈ a :: b :: o :: k.Store.Objects, smallO x ∧ pendO x := fun x hx => by
    rcases List.mem_cons.1 hx with rfl | hx
    · exact ⟨hsa, hpa⟩
    rcases List.mem_cons.1 hx with rfl | hx
    · exact ⟨hsb, hpb⟩
    rcases List.mem_cons.1 hx with rfl | hx
    · exact hk.obj
    · exact hk.kn.obj hx
  have hrow : (a.c :: b.c :: o.c :: List.map GObject.c k.Store.Objects) = (a :: b :: o :: k.Store.Objects).map GObject.c := rfl
  have hlen : 3 + k.Store.Objects.length = (a :: b :: o :: k.Store.Objects).length := by simp; omega
  generalize (a :: b :: o :: k.Store.Objects) = ls at hall hrow hlen
  have hll : ls.length ≤ 20003 := by omega
  rw [hrow]
  refine EV_freeze 5 [(10, slL 36 GObject.c default ls), (45, slL 36 GObject.c default ls), (46, .int .i64 ls.length), (47, .int .i64 0)] ⟨Lk.row (by decide) rfl rfl hlen, Lk.row (by decide) rfl rfl hlen, Lk.int (by rw [← hlen]; rfl), Lk.int rfl, trivial⟩ ?_
  simp only [List.take_succ_cons, List.take_zero]
  refine EV_loopW E_ok [10, 45, 46] (fun i : Nat => [(47, .int .i64 i)]) (fun B _ => B) (fun i => i ≤ ls.length) (fun i => ls.length - i) 0 (Nat.zero_le _) ?_
  rintro i hi
  replace hi : i ≤ ls.length := hi
  have hw : IntKind.i64.wrap ((i : Int) + 1) = ((i + 1 : Nat) : Int) := by rw [i64_in' (by omega)]; omega
  simp only [hw, push_cast, simprocAttr]
  (repeat' (first | (with_reducible intro hh; (first | subst hh | (revert hh; with_reducible intro _))) | with_reducible apply And.intro | refine eK E_ok ?_ | refine wA E_ok ?_ | exact trivial | contradiction)) <;> (first | (exact Lt.bool rfl) | omega | skip)
  rename_i hlt f3 _
  have hxi := hall _ (getD_mem (l := ls) (i := i) (by omega))
  generalize ls.getD i default = x at hxi
  refine EV_loopW E_ok [10, 12, 45, 46, 47, 54, 55] (fun j : Nat => [(56, .int .i64 j)]) (fun B _ => B) (fun j => j ≤ ls.length) (fun j => ls.length - j) 0 (Nat.zero_le _) ?_
  rintro j hj
  replace hj : j ≤ ls.length := hj
  have hw2 : IntKind.i64.wrap ((j : Int) + 1) = ((j + 1 : Nat) : Int) := by rw [i64_in' (by omega)]; omega
  simp only [hw2, push_cast, simprocAttr]
  refine ⟨fun hc => ?_, fun hc => ?_⟩
  · have hyj := hall _ (getD_mem (l := ls) (i := j) (by omega))
    generalize ls.getD j default = y at hyj
    have hA := ec_Reap x y hxi.1 hyj.1
    have hB := ec_ref16_Reap x y hxi.1 hxi.2 hyj.1 hyj.2
    rw [reap_eq] at hB
    have hC := ec_same_Object (reapO x y).1 (small_reap hxi.1)
    generalize reapO x y = q at hA hB hC
    (repeat' (first | (with_reducible intro hh; (first | subst hh | (revert hh; with_reducible intro _))) | with_reducible apply And.intro | refine eK E_ok ?_ | refine EC.use (hA) ?_ | refine EC.use (hB) ?_ | refine EC.use (hC) ?_ | refine wA E_ok ?_ | exact trivial | contradiction)) <;> (first | omega | (exfalso; simp_all; done) | ((try simp only [hw]); (try simp only [hw2]); first | exact NX_mk (i + 1) (by show i + 1 ≤ _; omega) | exact NX_mk (j + 1) (by show j + 1 ≤ _; omega)) | skip)
  · (repeat' (first | (with_reducible intro hh; (first | subst hh | (revert hh; with_reducible intro _))) | with_reducible apply And.intro | refine eK E_ok ?_ | refine wA E_ok ?_ | exact trivial | contradiction)) <;> (first | ((try simp only [hw]); exact NX_mk (i + 1) (by show i + 1 ≤ _; omega)) | skip)
end Go.Proofs.YtfmldmafigpblaaGreatDoor
end
section
namespace Go.Proofs.YtfmldmafigpblaaGreatDoor
open Go.Lift
set_option linter.unusedSimpArgs false
set_option linter.unusedVariables false
set_option maxRecDepth 10000
set_option maxHeartbeats 4000000
theorem only_eq {o : GObject} (h : onlyB o 2 = true) : o = { (default : GObject) with ID := o.ID, Kind := o.Kind, Process := o.Process } := by
  rw [proc_bare] at h
  simp only [bareB, Bool.and_eq_true, List.isEmpty_iff, beq_iff_eq] at h
  obtain ⟨oi, ok, rf, op, ow, od, oo, ot, orr, owr, ob, ⟨q0, q1⟩, oe, oc, on⟩ := o
  simp only at h
  obtain ⟨⟨⟨⟨⟨⟨⟨⟨⟨⟨⟨⟨⟨rfl, rfl⟩, rfl⟩, rfl⟩, rfl⟩, rfl⟩, rfl⟩, rfl⟩, rfl⟩, rfl⟩, rfl⟩, rfl⟩, rfl⟩, -⟩ := h
  rfl
theorem fork_eq (o : GObject) (id : Int) (pages : List Int) : forkR o id pages = forkO o id pages := by
  unfold forkR forkO
  by_cases h1 : (!prB o) = true
  · rw [if_pos h1, if_pos h1]
  rw [if_neg h1, if_neg h1]
  have hv : prB o = true := by simpa using h1
  by_cases h2 : (o.Process.State != 1) = true
  · rw [if_pos h2, if_pos h2]
  rw [if_neg h2, if_neg h2]
  have hst : o.Process.State = 1 := by simpa using h2
  have hl := Liv.of hv (by rw [hst]; decide)
  have hcl := hl.cl
  by_cases h3 : ((o.Process.Children.length : Int) == 32) = true
  · have h3' : o.Process.Children.length = 32 := by have := eq_of_beq h3; omega
    rw [if_pos (by simp [h3']), if_pos h3]
  have h3' : ¬ o.Process.Children.length = 32 := fun e => h3 (by simp [e])
  rw [if_neg (by simp; omega), if_neg h3]
  by_cases h4 : (id == 0 || id == o.ID || decide (id ∈ o.Process.Children)) = true
  · rw [if_pos h4, if_pos h4]
  rw [if_neg h4, if_neg h4]
  have hch : ({ childO o id with Process := { (childO o id).Process with Pages := (spRepl o.Process.Pages pages).1 } } : GObject) = chR o id (spRepl o.Process.Pages pages).1 := by
    have he := only_eq hl.on
    have hss := hl.ss hst
    generalize (spRepl o.Process.Pages pages).1 = l
    have hk := hl.k
    clear hcl h1 h2 h3 h3' h4 hv hl
    obtain ⟨oi, ok, rf, ⟨ps, pp, pc, pr, cp, pg, tb, pe, al, ss⟩, ow, od, oo, ot, orr, owr, ob, oq, oe, oc, on⟩ := o
    simp only [GObject.mk.injEq, true_and] at he hss hk hst
    subst hss hk
    obtain ⟨rfl, rfl, rfl, rfl, rfl, rfl, rfl, rfl, rfl, rfl, rfl, rfl⟩ := he
    rfl
  rw [hch]
  by_cases h5 : ((pages.length : Int) != ((spPriv o.Process.Pages).length : Int)) = true
  · have h6 : (spRepl o.Process.Pages pages).2 = 2 := by
      unfold spRepl
      rw [if_neg (by simp [hl.sp]), if_pos h5]
    rw [if_pos h5, if_pos (by rw [h6]; rfl), h6]
  rw [if_neg h5]
  by_cases h7 : ((spRepl o.Process.Pages pages).2 != 0) = true
  · have h8 : (spRepl o.Process.Pages pages).2 = 1 := by
      unfold spRepl at h7 ⊢
      rw [if_neg (by simp [hl.sp]), if_neg h5] at h7 ⊢
      split
      · rfl
      · rename_i g; rw [if_neg g] at h7; simp at h7
    rw [if_pos (by rw [h7]; rfl), if_pos h7, h8]
  rw [if_neg h7]
  by_cases h9 : (!prB (chR o id (spRepl o.Process.Pages pages).1)) = true
  · rw [if_pos (by rw [h9]; simp), if_pos h9]
  · rw [if_neg (by simp at h7 h9 ⊢; exact ⟨h7, h9⟩), if_neg h9]
end Go.Proofs.YtfmldmafigpblaaGreatDoor
end
section
namespace Go.Proofs.YtfmldmafigpblaaGreatDoor
open Go.Lift
set_option linter.unusedSimpArgs false
set_option linter.unusedVariables false
set_option maxRecDepth 10000
def pgR (a b : GPageRef) : Prop := b.ID = a.ID → a.Shared = true ∧ b.Shared = true
theorem spOk_iff {l : List GPageRef} : spOk l = true ↔ ((∀ p ∈ l, p.ID ≠ 0) ∧ l.Pairwise pgR) ∧ l.length ≤ 16 := by
  unfold spOk
  rw [Bool.and_eq_true, decide_eq_true_eq, List.all_eq_true]
  refine and_congr ?_ (by omega)
  rw [List.pairwise_iff_getElem]
  constructor
  · intro h
    refine ⟨fun p hp => ?_, fun i j hi hj hij he => ?_⟩
    · obtain ⟨i, hi, rfl⟩ := List.mem_iff_getElem.1 hp
      have := h i (by simpa using hi)
      simp [pgP, List.getD, hi] at this
      exact this.1
    · have := h j (by simpa using hj)
      simp only [pgP, Bool.and_eq_true, Bool.not_eq_true', List.any_eq_false] at this
      have h2 := this.2 l[i] (List.mem_take_iff_getElem.2 ⟨i, by omega, rfl⟩)
      simp only [List.getD, hj, List.getElem?_eq_getElem, Option.getD_some, again, he, beq_self_eq_true, Bool.true_and, Bool.or_eq_true, Bool.not_eq_true'] at h2
      cases hs : l[i].Shared <;> cases ht : l[j].Shared <;> simp_all
  · rintro ⟨h1, h2⟩ j hj
    have hj' : j < l.length := by simpa using hj
    simp only [pgP, Bool.and_eq_true, Bool.not_eq_true', List.any_eq_false, List.getD, hj', List.getElem?_eq_getElem, Option.getD_some]
    refine ⟨by simpa using h1 _ (List.getElem_mem hj'), fun q hq => ?_⟩
    obtain ⟨i, hi, rfl⟩ := List.mem_take_iff_getElem.1 hq
    by_cases he : l[j].ID = l[i].ID
    · have := h2 i j (by omega) hj' (by omega) he
      simp [again, this.1, this.2]
    · simp [again, he, Ne.symm he]
theorem replL_shape {x : GPageRef} : ∀ {l : List GPageRef} {r : List Int}, np l ≤ r.length → x ∈ replL l r → (x ∈ l ∧ x.Shared = true) ∨ (x.ID ∈ r ∧ x.Shared = false)
  | [], _, _, h => nomatch h
  | p :: t, r, hn, h => by
    rw [replL] at h
    cases hp : p.Shared with
    | true =>
      simp only [newP, hp, if_true] at h
      rcases List.mem_cons.1 h with rfl | h
      · exact .inl ⟨List.mem_cons_self, hp⟩
      · rcases replL_shape (l := t) (r := r) (by simpa [np, hp] using hn) h with h | h
        · exact .inl ⟨List.mem_cons_of_mem _ h.1, h.2⟩
        · exact .inr h
    | false =>
      cases r with
      | nil => simp [np, hp] at hn
      | cons a r =>
        simp only [newP, hp, if_false, Bool.false_eq_true, List.getD_cons_zero, List.drop_succ_cons, List.drop_zero] at h
        rcases List.mem_cons.1 h with rfl | h
        · exact .inr ⟨List.mem_cons_self, rfl⟩
        · rcases replL_shape (l := t) (r := r) (by simpa [np, hp] using hn) h with h | h
          · exact .inl ⟨List.mem_cons_of_mem _ h.1, h.2⟩
          · exact .inr ⟨List.mem_cons_of_mem _ h.1, h.2⟩
theorem replL_pw : ∀ {l : List GPageRef} {r : List Int}, np l ≤ r.length → r.Nodup → (∀ x ∈ r, ∀ p ∈ l, p.ID ≠ x) → l.Pairwise pgR → (replL l r).Pairwise pgR
  | [], _, _, _, _, _ => .nil
  | p :: t, r, hn, hd, hf, hp => by
    obtain ⟨h1, h2⟩ := List.pairwise_cons.1 hp
    rw [replL]
    cases hs : p.Shared with
    | true =>
      simp only [newP, hs, if_true]
      have hn' : np t ≤ r.length := by simpa [np, hs] using hn
      refine List.pairwise_cons.2 ⟨fun y hy he => ?_, replL_pw hn' hd (fun x hx q hq => hf x hx q (List.mem_cons_of_mem _ hq)) h2⟩
      rcases replL_shape hn' hy with h | h
      · exact h1 y h.1 he
      · exact absurd he.symm (hf _ h.1 p List.mem_cons_self)
    | false =>
      cases r with
      | nil => simp [np, hs] at hn
      | cons a r =>
        simp only [newP, hs, if_false, Bool.false_eq_true, List.getD_cons_zero, List.drop_succ_cons, List.drop_zero]
        have hn' : np t ≤ r.length := by simpa [np, hs] using hn
        have hd' := List.nodup_cons.1 hd
        refine List.pairwise_cons.2 ⟨fun y hy he => ?_, replL_pw hn' hd'.2 (fun x hx q hq => hf x (List.mem_cons_of_mem _ hx) q (List.mem_cons_of_mem _ hq)) h2⟩
        replace he : y.ID = a := he
        rcases replL_shape hn' hy with h | h
        · exact absurd he (hf a List.mem_cons_self y (List.mem_cons_of_mem _ h.1))
        · rw [he] at h; exact absurd h.1 hd'.1
theorem spRepl_new {l : List GPageRef} {r : List Int} (hl : spOk l = true) (hn : r.length = (spPriv l).length) (hd : r.Nodup) (h0 : ∀ x ∈ r, x ≠ 0) (hf : ∀ x ∈ r, ∀ p ∈ l, p.ID ≠ x) : spRepl l r = (replL l r, 0) ∧ spOk (replL l r) = true := by
  have hnp : np l ≤ r.length := by rw [hn, spPriv_len (by simp [hl])]; exact Nat.le_refl _
  have hk := spOk_iff.1 hl
  have h1 : spOk (replL l r) = true := spOk_iff.2 ⟨⟨fun p hp => by
    rcases replL_shape hnp hp with h | h
    · exact hk.1.1 p h.1
    · exact h0 _ h.1, replL_pw hnp hd hf hk.1.2⟩, by rw [replL_len]; exact hk.2⟩
  refine ⟨?_, h1⟩
  unfold spRepl
  rw [if_neg (by simp [hl]), if_neg (by simp [hn]), if_neg (by simp [h1])]
theorem fork_new {o : GObject} {id : Int} {r : List Int} (ho : Liv o) (hs : o.Process.State = 1) (hc : o.Process.Children.length < 32) (hi : id ≠ 0 ∧ id ≠ o.ID ∧ id ∉ o.Process.Children) (hn : r.length = (spPriv o.Process.Pages).length) (hd : r.Nodup) (h0 : ∀ x ∈ r, x ≠ 0) (hf : ∀ x ∈ r, ∀ p ∈ o.Process.Pages, p.ID ≠ x) :
    forkR o id r = ({ o with Process := { o.Process with Children := o.Process.Children ++ [id] } }, chR o id (replL o.Process.Pages r), 0) ∧ Liv { o with Process := { o.Process with Children := o.Process.Children ++ [id] } } ∧ Liv (chR o id (replL o.Process.Pages r)) := by
  obtain ⟨h1, h2⟩ := spRepl_new ho.sp hn hd h0 hf
  have hP : Liv { o with Process := { o.Process with Children := o.Process.Children ++ [id] } } := ⟨ho.k, ho.id, ho.on' _, famL_snoc ho.fam hi.1 hi.2.1 hi.2.2, ho.par, by simp; omega, ho.st, ho.chk, ho.sp, ho.tb, ho.sg, ho.al, ho.ss⟩
  have hC : Liv (chR o id (replL o.Process.Pages r)) := ⟨rfl, hi.1, by rw [proc_bare]; rfl, rfl, fun e => hi.2.1 e.symm, Nat.zero_le _, .inl hs, ho.chk, h2, ho.tb, sig_00, by show (0 : Int) ≤ 0 ∧ (0 : Int) ≤ 1073741824; decide, fun _ => rfl⟩
  refine ⟨?_, hP, hC⟩
  unfold forkR
  rw [if_neg (by simp [ho.pr]), if_neg (by simp [hs]), if_neg (by simp; omega), if_neg (by simp [hi.1, hi.2.1, hi.2.2]), if_neg (by simp [hn]), if_neg (by simp [h1, hC.pr]), h1]
def zomO (id par st : Int) : GObject := { (default : GObject) with ID := id, Kind := 1, Process := { (default : GProcess) with State := 3, Parent := par, Status := st } }
theorem zom_pr {id par st : Int} (h1 : id ≠ 0) (h2 : par ≠ 0) (h3 : par ≠ id) : prB (zomO id par st) = true :=
  (prB_iff _).2 ⟨⟨rfl, h1, by rw [proc_bare]; rfl, (famB_iff _).2 ⟨rfl, h3, Nat.zero_le _⟩⟩, .inl ⟨rfl, h2, rfl⟩⟩
theorem end_zom {c : GObject} {st : Int} (h : Liv c) (hp : c.Process.Parent ≠ 0) : endO c st = (zomO c.ID c.Process.Parent st, false, 0) := by
  unfold endO
  rw [if_neg (by simp [h.pr]), if_neg (by simpa using h.n3), if_neg (by simpa using hp)]
  rfl
theorem orph_liv {c : GObject} (h : Liv c) (hp : c.Process.Parent ≠ 0) : orphO c = ({ c with Process := { c.Process with Parent := 0 } }, false, 0) ∧ ∀ st, endO { c with Process := { c.Process with Parent := 0 } } st = (default, true, 0) := by
  have hl : Liv { c with Process := { c.Process with Parent := 0 } } := ⟨h.k, h.id, h.on' _, h.fam, fun e => h.id e.symm, h.cl, h.st, h.chk, h.sp, h.tb, h.sg, h.al, h.ss⟩
  refine ⟨?_, fun st => ?_⟩
  · unfold orphO
    rw [if_neg (by simp [h.pr]), if_neg (by simpa using hp), if_neg (by simpa using h.n3)]
  · unfold endO
    rw [if_neg (by simp [hl.pr]), if_neg (by simpa using hl.n3), if_pos (by simp)]
theorem orph_zom {id par st : Int} (h1 : id ≠ 0) (h2 : par ≠ 0) (h3 : par ≠ id) : orphO (zomO id par st) = (default, true, 0) := by
  unfold orphO
  rw [if_neg (by simp [zom_pr h1 h2 h3]), if_neg (by simpa [zomO] using h2), if_pos (by rfl)]
theorem without_snoc {x : Int} {l : List Int} (h : x ∉ l) : without x (l ++ [x]) = l := by
  unfold without
  rw [List.filter_append]
  have h1 : l.filter (fun y => y != x) = l := List.filter_eq_self.2 fun y hy => by simp; rintro rfl; exact h hy
  simp [h1]
theorem reap_life {o c : GObject} {st : Int} (ho : Liv o) (hP : Liv { o with Process := { o.Process with Children := o.Process.Children ++ [c.ID] } }) (hc : Liv c) (hp : c.Process.Parent = o.ID) (hn : c.ID ∉ o.Process.Children) :
    (reapR { o with Process := { o.Process with Children := o.Process.Children ++ [c.ID] } } c) = (default, 0, 12) ∧ (reapR { o with Process := { o.Process with Children := o.Process.Children ++ [c.ID] } } (zomO c.ID o.ID st)) = (o, st, 0) ∧ reapR o (zomO c.ID o.ID st) = (default, 0, 14) := by
  have hz : prB (zomO c.ID o.ID st) = true := zom_pr hc.id ho.id (by rw [← hp]; exact hc.par)
  refine ⟨?_, ?_, ?_⟩
  · unfold reapR
    rw [if_neg (by simp [hP.pr, hc.pr]), if_neg (by simp [hp]), if_pos (by simpa using hc.n3)]
  · unfold reapR
    rw [if_neg (by simp [hP.pr, hz]), if_neg (by simp [zomO]), if_neg (by simp [zomO])]
    have : without (zomO c.ID o.ID st).ID (o.Process.Children ++ [c.ID]) = o.Process.Children := without_snoc hn
    rw [this]
    rfl
  · unfold reapR
    rw [if_neg (by simp [ho.pr, hz]), if_pos (by simp [zomO, hn])]
end Go.Proofs.YtfmldmafigpblaaGreatDoor
end
