/- Part 12: KfA, KfB, KfC, KfD, KfE, KfF, KfG, KfH, KfI, ProcE, San, TopCard. -/
import Derived.Test.YtfmldmafigpblaaGreatDoorCards
import Derived.Test.YtfmldmafigpblaaGreatDoorTie
import Derived.WalkKit
import Derived.ProofKit
import Derived.OpenShut
import Derived.Deep.DeepHandedRow
import Derived.Lib.LaidTab
import Derived.Test.YtfmldmafigpblaaGreatDoorU07
import Derived.Test.YtfmldmafigpblaaGreatDoorU11
section
namespace Go.Proofs.YtfmldmafigpblaaGreatDoor
open Go.Lift
set_option linter.unusedSimpArgs false
set_option linter.unusedVariables false
set_option maxRecDepth 10000
set_option maxHeartbeats 1000000
section
variable {I D : Int → Prop} {L : Nat}
attribute [push_cast] r2k
inductive LFs (sel : Nat → Bool) (B : List Own) : List SV → List SV → Prop where
  | nil : LFs sel B [] []
  | cons {s s' : SV} {l l' : List SV} (hk : frzKT sel B s) (h : SLe (frzT sel B s) s') (hr : LFs sel B l l') : LFs sel B (s :: l) (s' :: l')
theorem LFs.spec {sel : Nat → Bool} {B : List Own} {l l' : List SV} (h : LFs sel B l l') : l.length = l'.length ∧ ∀ (i : Nat) (c : SV), l'[i]? = some c → ∃ d, l[i]? = some d ∧ frzKT sel B d ∧ SLe (frzT sel B d) c := by
  induction h with
  | nil => exact ⟨rfl, fun i c h => by simp at h⟩
  | cons hk h _ ih =>
    refine ⟨by simp [ih.1], fun i c hc => ?_⟩
    cases i with
    | zero => simp at hc; subst hc; exact ⟨_, rfl, hk, h⟩
    | succ i => simpa using ih.2 i c (by simpa using hc)
theorem EC.giveI {P : Program} {f : Nat} {args args' : List SV} {B : List Own} {Q : SV → List Own → Prop} (i : Nat) (hi : i < B.length) (ha : LFs (fun j => j == i) B args args') (h : EC P f args' (B.set i .gone) Q) : EC P f args B Q := by
  have hb : ∀ j, getD' (B.set i .gone) j = if (fun j => j == i) j then .gone else getD' B j := fun j => by rw [getD'_set hi]; simp [beq_iff_eq]
  refine ⟨h.1, fun X w vs hs hd => ?_⟩
  have hsp := ha.spec
  refine (h.2 (withSel X B (fun j => j == i)) w vs (hs.drop_sel hb) ⟨by rw [hd.1, hsp.1], fun k c hc => ?_⟩).mono ?_
  · obtain ⟨d, h1, h2, h3⟩ := hsp.2 k c hc
    exact h3 _ _ _ (frzT_sound hs (hd.2 k d h1) h2)
  · rintro e w' ⟨v, r, X', B', he, hq, h1, h2, h3⟩
    exact ⟨v, r, X', B', he, hq, h1, h2, (Ext.drop_sel hb).trans h3⟩
theorem EC.giveN {P : Program} {f : Nat} {B : List Own} {Q : SV → List Own → Prop} (i : Nat) {o : GObject} {p : List UInt8} {k x : Int} {h : RowH} {E : Nat} (hB : getD' B i = .row h E 1 [[.int .u64 x]]) (hc : EC P f [.agg o.c, .agg (GName.mk p k [x]).c] (B.set i .gone) Q) : EC P f [.agg o.c, .agg [.str p, .int .i64 k, .row i h 1 0 1]] B Q := by
  refine EC.giveI i (getD'_lt hB) (.cons ?_ ?_ (.cons ?_ ?_ .nil)) hc
  · simp only [frzKT, frzKA]; rw [GObject.fk]; trivial
  · simp only [frzT, frzA]; rw [GObject.fz]; exact SLe.refl _
  · simp [frzKT, frzKA, frzKL, frzKC, hB]
  · simp only [frzT, frzA, frzL, frzC, beq_self_eq_true, hB]
    refine SLe.agg (.cons (SLe.refl _) (.cons (SLe.refl _) (.cons ?_ .nil)))
    refine SLe.sl (fun h => h) (.inr rfl) fun j hj => ?_
    have : j = 0 := by omega
    subst this
    rfl
theorem okO_newO {p : GProgram} {ids : List Int} (hi : newIds I ids) (hd : ∀ x, D x → I x) (hn : 1 ≤ ids.length) (hc : p.Code.length ≤ 1000000) (hp : p.Strings.length ≤ 1000000) : (newO (ids.getD 0 default) p (ids.drop 1)).2 = 0 → okO (fun y => I y ∨ y ∈ ids) D (newO (ids.getD 0 default) p (ids.drop 1)).1 := by
  have hid : ids.getD 0 default ∈ ids := getD_mem (by omega)
  have htl : ∀ x ∈ ids.drop 1, x ∈ ids := fun x hx => List.mem_of_mem_drop hx
  generalize ids.getD 0 default = id0 at hid
  generalize ids.drop 1 = tl at htl
  intro h
  unfold newO at h ⊢
  split
  · rename_i g; rw [if_pos g] at h; simp at h
  rename_i g
  rw [if_neg g] at h
  split
  · rename_i g2; rw [if_pos g2] at h; simp at h
  rename_i g2
  rw [if_neg g2] at h
  split
  · rename_i g3; rw [if_pos g3] at h; simp at h
  rename_i g3
  have hv : prB (procN id0 p (tl.map fun x => { (default : GPageRef) with ID := x })) = true := by simpa using g3
  have hl : Liv (procN id0 p (tl.map fun x => { (default : GPageRef) with ID := x })) := Liv.of hv (by show (1 : Int) ≠ 3; decide)
  have hsk : spOk (tl.map fun x => { (default : GPageRef) with ID := x }) = true := hl.sp
  have hsp := spOk_len (l := tl.map fun x => { (default : GPageRef) with ID := x }) (by rw [hsk]; rfl)
  refine ⟨⟨⟨Nat.zero_le _, hc, hp, by show (tl.map _).length ≤ _; omega, Nat.zero_le _⟩, Nat.zero_le _, Nat.zero_le _, Nat.zero_le _, Nat.zero_le _, Nat.zero_le _, Nat.zero_le _, fun n hn => (nomatch hn)⟩, pend_def, fun _ => hv, ⟨.inr hid, fun c hc => (nomatch hc), fun q hq => ?_, fun n hn => (nomatch hn)⟩, fun n hn => (nomatch hn), fun _ => ⟨fun hd' => hi.nf _ hid (hd _ hd'), fun s hs => (nomatch hs)⟩⟩
  obtain ⟨y, hy, rfl⟩ := List.mem_map.1 (show q ∈ tl.map fun x => { (default : GPageRef) with ID := x } from hq)
  exact .inr (htl _ hy)
attribute [local irreducible] EC EV getS putS remS almTick newO
theorem ec_ref20_Tick (s : GStore) (id n : Int) (h0 : I 0) (hs : okS I D s) (hl : s.Objects.length ≤ L) (hL : L ≤ 900000) : EC Tryz.prog 82 [.agg s.c, .int .u64 id, .int .i64 n] [] fun r N => N = [] ∧ ∃ x : GStore × Int, (x.2 = 0 → okS I D x.1 ∧ x.1.Objects.length ≤ L + 1) ∧ r = .tup [.agg x.1.c, .int .i64 x.2] := by
  refine EC.finKP ?_
  (refine nW E_ok call_82 Tryz.func82 Tryz.ntmps82 Tryz.results82 ?_)
  have hsl : s.Objects.length ≤ 1000000 := by omega
  have bad : ∀ (c : Int) (B : List Own), c ≠ 0 → ∃ x : GStore × Int, (x.2 = 0 → okS I D x.1 ∧ x.1.Objects.length ≤ L + 1) ∧ Lt B (SV.tup [SV.agg (default : GStore).c, SV.int IntKind.i64 c]) (SV.tup [SV.agg x.1.c, SV.int IntKind.i64 x.2]) := fun c B hc =>
    ⟨(default, c), fun e0 => absurd e0 hc, Lt.t2 (FzA.agg (FzL.pl rfl)) (FzA.intE rfl)⟩
  (repeat' (first | (with_reducible intro hh; (first | subst hh | (revert hh; with_reducible intro _))) | with_reducible apply And.intro | refine eK E_ok ?_ | (refine EC.useP (ec_ref20_alive s id hsl) ?_; rintro ⟨_, _⟩ _) | refine wA E_ok ?_ | exact trivial | contradiction))
  · rename_i o e hx fr1 he
    exact bad e _ (by simpa using he)
  rename_i o e hx fr1 he
  obtain ⟨ho1, hk, hst⟩ := hx (by simpa using he)
  simp only at ho1 hk hst
  have ho : okO I D o := by rw [ho1]; exact hs.get h0
  have hP : okP I D o := ⟨ho, Liv.of (ho.pr hk) hst⟩
  have hpt := @okP_almTick I D o n hP
  have hal := ec_ref15_Tick o.Process n
  generalize almTick o.Process n = q at hpt hal
  obtain ⟨p, e2⟩ := q
  (repeat' (first | (with_reducible intro hh; (first | subst hh | (revert hh; with_reducible intro _))) | with_reducible apply And.intro | refine eK E_ok ?_ | refine EC.use (hal) ?_ | refine EC.use (ec_ref18_Put s { o with Process := p } hsl) ?_ | refine wA E_ok ?_ | exact trivial | contradiction))
  · rename_i he2
    exact bad e2 _ (by simpa using he2)
  rename_i he2
  have h2 := hpt (by simpa using he2)
  exact ⟨((putS s { o with Process := p }).1, 0), fun _ => ⟨hs.put h2.tookO, Nat.le_trans (putS_len _ _) (by omega)⟩, Lt.t2 (FzA.aggS rfl) (FzA.intE rfl)⟩
theorem ec_ref20_Runnable (s : GStore) (hl : s.Objects.length ≤ 1000000) : EC Tryz.prog 102 [.agg s.c] [] fun r N => N = [] ∧ ∃ l : List Int, l.length ≤ s.Objects.length ∧ r = slL 1 (intC .u64) default l := by
  refine EC.finKP ?_
  (refine nW E_ok call_102 Tryz.func102 Tryz.ntmps102 Tryz.results102 ?_)
  intro fr
  refine EV_matr 3 22 1 rfl ?_
  intro h1
  refine EV_loopW E_ok [7, 8] (fun x : Nat × List Int × RowH => [(9, .int .i64 x.1), (3, .row 1 x.2.2 1 0 x.2.1.length)]) (fun B x => updH B 1 x.2.2 (x.2.1.map (intC .u64))) (fun x => x.1 ≤ s.Objects.length ∧ x.2.1.length ≤ x.1) (fun x => s.Objects.length - x.1) (0, [], h1) ⟨Nat.zero_le _, Nat.le_refl _⟩ ?_
  rintro ⟨i, l, hr⟩ ⟨hi, hm⟩
  replace hi : i ≤ s.Objects.length := hi
  replace hm : l.length ≤ i := hm
  have hw : IntKind.i64.wrap ((i : Int) + 1) = ((i + 1 : Nat) : Int) := by rw [i64_in' (by omega)]; omega
  simp only [hw, push_cast, simprocAttr]
  (repeat' (first | (with_reducible intro hh; (first | subst hh | (revert hh; with_reducible intro _))) | with_reducible apply And.intro | refine eK E_ok ?_ | refine wA E_ok ?_ | exact trivial | contradiction)) <;> (first | omega | skip)
  · rename_i f1 g f2
    exact NX_mk (i + 1, l ++ [_], f2 4) ⟨by show i + 1 ≤ _; omega, by show (l ++ [_]).length ≤ i + 1; simp; omega⟩
  · exact NX_mk (i + 1, l, hr) ⟨by show i + 1 ≤ _; omega, by show l.length ≤ i + 1; omega⟩
  · exact ⟨l, by omega, Lt.row rfl rfl rfl⟩
theorem ec_ref20_Start (s : GStore) (p : GProgram) (ids : List Int) (h0 : I 0) (hs : okS I D s) (hl : s.Objects.length ≤ L) (hL : L ≤ 600000) (hc : p.Code.length ≤ 1000000) (hp : p.Strings.length ≤ 1000000) (hi : newIds I ids) (hd : ∀ x, D x → I x) : EC Tryz.prog 98 [.agg s.c, .agg p.c, slL 1 (intC .u64) default ids] [] fun r N => N = [] ∧ ∃ x : GStore × Int, (x.2 = 0 → okS (fun y => I y ∨ y ∈ ids) D x.1 ∧ x.1.Objects.length ≤ L + 65) ∧ r = .tup [.agg x.1.c, .int .i64 x.2] := by
  refine EC.finKP ?_
  (refine nW E_ok call_98 Tryz.func98 Tryz.ntmps98 Tryz.results98 ?_)
  have hsl : s.Objects.length ≤ 1000000 := by omega
  have hil := hi.ln
  have bad : ∀ (c : Int) (B : List Own), c ≠ 0 → ∃ x : GStore × Int, (x.2 = 0 → okS (fun y => I y ∨ y ∈ ids) D x.1 ∧ x.1.Objects.length ≤ L + 65) ∧ Lt B (SV.tup [SV.agg (default : GStore).c, SV.int IntKind.i64 c]) (SV.tup [SV.agg x.1.c, SV.int IntKind.i64 x.2]) := fun c B hc =>
    ⟨(default, c), fun e0 => absurd e0 hc, Lt.t2 (FzA.agg (FzL.pl rfl)) (FzA.intE rfl)⟩
  (repeat' (first | (with_reducible intro hh; (first | subst hh | (revert hh; with_reducible intro _))) | with_reducible apply And.intro | refine eK E_ok ?_ | (refine EC.useP (ec_ref20_fresh s ids hsl (by omega)) ?_; rintro _ _) | refine wA E_ok ?_ | exact trivial | contradiction)) <;> (first | (exact bad 15 _ (by decide)) | (exact bad 2 _ (by decide)) | skip)
  rename_i hne
  have hn1 : 1 ≤ ids.length := by simp at hne; cases ids with
    | nil => simp at hne
    | cons a l => simp
  have hNw := ec_ref16_New (ids.getD 0 default) p (ids.drop 1) hc hp (by simp; omega)
  rw [show slL 1 (intC .u64) default (ids.drop 1) = .sl false 1 (ids.length - 1) (elt (intC .u64) default (ids.drop 1)) by rw [← List.length_drop]; rfl] at hNw
  have hok := @okO_newO I D p ids hi hd hn1 hc hp
  generalize newO (ids.getD 0 default) p (ids.drop 1) = q at hNw hok
  obtain ⟨o, e⟩ := q
  refine EV_meetW (σ := RowH) [2, 3, 6, 7] (fun r => [(8, .rptr 3 r 36 0 0), (9, .int .i64 e)]) (fun B r => B ++ [.row r 41 36 [o.c]]) (fun _ => True) ?_ ?_
  rotate_left 1
  · (repeat' (first | (with_reducible intro hh; (first | subst hh | (revert hh; with_reducible intro _))) | with_reducible apply And.intro | refine eK E_ok ?_ | refine EC.use (hNw) ?_ | refine dM E_ok 9 [0, 1, 2, 3, 4, 5, 6, 7, 8, 9, 10, 11, 12, 13] [0, 1, 4, 5] fol fun R hR => ?_ | refine ed3 E_ok 2 3 10 ?_ ?_ ?_ | refine ed2 E_ok 3 10 ?_ ?_ | refine ed2 E_ok 2 10 ?_ ?_ | refine ed2 E_ok 2 3 ?_ ?_ | refine ed2 E_ok 6 10 ?_ ?_ | refine ed1 E_ok 3 ?_ | refine ed1 E_ok 2 ?_ | refine dR E_ok [7, 8, 9, 10, 11, 12] ?_ | refine dR E_ok [6, 7, 8, 9, 11, 12] ?_ | refine dR E_ok [7, 8, 9, 11, 12] ?_ | (refine hR _ _ ?_; refine sA ?_) | refine wA E_ok ?_ | exact trivial | contradiction)) <;> (first | omega | (exact MT_mk _ trivial) | skip)
  rintro h3 -
  simp only [keepS, lkp, push_cast, simprocAttr]
  (repeat' (first | (with_reducible intro hh; (first | subst hh | (revert hh; with_reducible intro _))) | with_reducible apply And.intro | refine eK E_ok ?_ | refine EC.use (ec_ref18_Put s o hsl) ?_ | refine wA E_ok ?_ | exact trivial | contradiction)) <;> (first | assumption | skip)
  · rename_i he
    exact bad e _ (by simpa using he)
  rename_i he
  have ho := hok (by simpa using he)
  have hs1 : okS (fun y => I y ∨ y ∈ ids) D s := hs.mono fun _ h => .inl h
  refine EV_loopW E_ok [0, 2, 3, 6, 7, 42, 43] (fun x : Nat × GStore => [(44, .int .i64 x.1)]) (fun B x => updX B 0 [x.2.c]) (fun x => x.1 ≤ ids.length - 1 ∧ okS (fun y => I y ∨ y ∈ ids) D x.2 ∧ x.2.Objects.length ≤ L + 1 + x.1) (fun x => ids.length - 1 - x.1) (0, (putS s o).1) ⟨Nat.zero_le _, hs1.put ho, Nat.le_trans (putS_len _ _) (by show _ ≤ L + 1 + 0; omega)⟩ ?_
  rintro ⟨i, s2⟩ ⟨hi2, hs2, hl2⟩
  replace hi2 : i ≤ ids.length - 1 := hi2
  replace hl2 : s2.Objects.length ≤ L + 1 + i := hl2
  replace hs2 : okS (fun y => I y ∨ y ∈ ids) D s2 := hs2
  have hsl2 : s2.Objects.length ≤ 1000000 := by omega
  have hw : IntKind.i64.wrap ((i : Int) + 1) = ((i + 1 : Nat) : Int) := by rw [i64_in' (by omega)]; omega
  simp only [hw, push_cast, simprocAttr]
  (repeat' (first | (with_reducible intro hh; (first | subst hh | (revert hh; with_reducible intro _))) | with_reducible apply And.intro | refine eK E_ok ?_ | refine EC.use (ec_ref06_NewP _) ?_ | refine EC.use (ec_ref18_Put s2 _ hsl2) ?_ | refine dM E_ok 7 [0, 1, 2, 3, 4, 5, 6, 7, 8, 9, 10, 11, 12, 13] [1] fol fun R hR => ?_ | refine ed2 E_ok 0 2 ?_ ?_ | refine dR E_ok [2, 3, 4, 5, 6, 7] ?_ | refine dR E_ok [3, 4, 5, 6, 7] ?_ | refine dR E_ok [4, 5, 6, 7] ?_ | refine ed1 E_ok 0 ?_ | (refine hR _ _ ?_; refine sA ?_) | refine wA E_ok ?_ | exact trivial | contradiction)) <;> (first | omega | (exact ⟨(s2, 0), fun _ => ⟨hs2, (by show s2.Objects.length ≤ L + 65; omega)⟩, Lt.t2 (FzA.aggS rfl) (FzA.intE rfl)⟩) | skip)
  all_goals
    (try simp only [hw])
    exact NX_mk (i + 1, (putS s2 { (default : GObject) with ID := ids.getD (1 + i) default, Kind := 2, Words := List.replicate 16 0 }).1) ⟨by show i + 1 ≤ _; omega, hs2.put (okO_page (.inl h0) (.inr (getD_mem (by omega)))), Nat.le_trans (putS_len _ _) (by show _ ≤ L + 1 + (i + 1); omega)⟩
theorem ec_ref20_Boot (paths : List (List UInt8)) (ids : List Int) (h0 : I 0) (h1 : I 1) (hp : paths.length ≤ 1000) (hps : ∀ p ∈ paths, p.length ≤ 1000000) (hil : ids.length ≤ 1000) (hi : ∀ y ∈ ids, I y) : EC Tryz.prog 77 [slL 1 strC default paths, slL 1 (intC .u64) default ids] [] fun r N => N = [] ∧ ∃ x : GStore × Int, (okS I D x.1 ∧ x.1.Objects.length ≤ paths.length + 1) ∧ r = .tup [.agg x.1.c, .int .i64 x.2] := by
  refine EC.finKP ?_
  (refine nW E_ok call_77 Tryz.func77 Tryz.ntmps77 Tryz.results77 ?_)
  have bad : ∀ (c : Int) (B : List Own), c ≠ 0 → ∃ x : GStore × Int, (okS I D x.1 ∧ x.1.Objects.length ≤ paths.length + 1) ∧ Lt B (SV.tup [SV.agg (default : GStore).c, SV.int IntKind.i64 c]) (SV.tup [SV.agg x.1.c, SV.int IntKind.i64 x.2]) := fun c B hc =>
    ⟨(default, c), ⟨fun o ho => (nomatch ho), Nat.zero_le _⟩, Lt.t2 (FzA.agg (FzL.pl rfl)) (FzA.intE rfl)⟩
  have hw1 : IntKind.i64.wrap (paths.length : Int) = paths.length := i64_in' (by omega)
  have hw2 : IntKind.i64.wrap (ids.length : Int) = ids.length := i64_in' (by omega)
  (repeat' (first | (with_reducible intro hh; (first | subst hh | (revert hh; with_reducible intro _))) | with_reducible apply And.intro | refine eK E_ok ?_ | refine EC.use (ec_ref09_New) ?_ | refine wA E_ok ?_ | exact trivial | contradiction)) <;> (first | (exact bad 2 _ (by decide)) | skip)
  rename_i fr1 hln fr2 fr3
  have hlen : paths.length = ids.length := by simp at hln; omega
  have hr0 : okO I D { (default : GObject) with ID := 1, Kind := 10 } := okO_new h0 (by show (10 : Int) ≠ 1; decide) h1 rfl (Nat.zero_le _) rfl rfl rfl rfl
  refine EV_loopW E_ok [0, 1, 4, 5, 6, 7, 20, 21] (fun x : Nat × GObject × GStore => [(22, .int .i64 x.1)]) (fun B x => updX (updX B 1 [x.2.1.c]) 2 [x.2.2.c]) (fun x => x.1 ≤ paths.length ∧ okO I D x.2.1 ∧ okS I D x.2.2 ∧ x.2.2.Objects.length ≤ x.1) (fun x => paths.length - x.1) (0, { (default : GObject) with ID := 1, Kind := 10 }, default) ⟨Nat.zero_le _, hr0, fun o ho => (nomatch ho), Nat.zero_le _⟩ ?_
  rintro ⟨i, ro, s2⟩ ⟨hi2, hro, hs2, hl2⟩
  replace hi2 : i ≤ paths.length := hi2
  replace hro : okO I D ro := hro
  replace hs2 : okS I D s2 := hs2
  replace hl2 : s2.Objects.length ≤ i := hl2
  have hsl2 : s2.Objects.length ≤ 1000000 := by omega
  have hw : IntKind.i64.wrap ((i : Int) + 1) = ((i + 1 : Nat) : Int) := by rw [i64_in' (by omega)]; omega
  simp only [hw, push_cast, simprocAttr]
  refine ⟨fun hc => ?_, fun hc => ?_⟩
  rotate_left 1
  · (repeat' (first | (with_reducible intro hh; (first | subst hh | (revert hh; with_reducible intro _))) | with_reducible apply And.intro | refine eK E_ok ?_ | refine EC.use (ec_ref18_Put s2 ro hsl2) ?_ | refine wA E_ok ?_ | exact trivial | contradiction)) <;> (first | (exact ⟨((putS s2 ro).1, 0), ⟨hs2.put hro, Nat.le_trans (putS_len _ _) (by omega)⟩, Lt.t2 (FzA.aggS rfl) (FzA.intE rfl)⟩) | skip)
  have hlt : i < ids.length := by simp at hc; omega
  refine ⟨⟨by omega, by omega⟩, ?_⟩
  have hsub := sub_elt0 (fl := false) (e := 1) (c := intC .u64) (d := default) (Nat.le_of_lt hlt)
  have hHas : ∀ x : Int, EC Tryz.prog 30 [SV.sl false 1 i (sub (elt (intC IntKind.u64) default ids) ids.length 0 i), .int .u64 x] [] fun r B => B = [] ∧ r = .bool (decide (x ∈ ids.take i)) := fun x => by
    rw [hsub]
    exact ec_ref03_HasS (ids.take i) x (by simp; omega)
  refine EV_meetW (σ := Bool) [0, 1, 4, 5, 6, 7, 8, 9, 20, 21, 22] (fun b => [(48, .bool b)]) (fun B _ => B) (fun _ => True) ?_ ?_
  rotate_left 1
  · (repeat' (first | (with_reducible intro hh; (first | subst hh | (revert hh; with_reducible intro _))) | with_reducible apply And.intro | refine eK E_ok ?_ | refine EC.use (hHas _) ?_ | refine dN E_ok [] [] [0, 1, 2, 3, 4, 5, 6, 7, 8, 9, 10, 11, 12, 13, 14, 15, 16, 17, 18, 19, 20, 21] fol fun R hR => ?_ | refine dR E_ok [21] ?_ | (refine hR _ _ ?_; refine sA ?_) | refine wA E_ok ?_ | exact trivial | contradiction)) <;> (first | omega | assumption | (exact MT_mk _ trivial) | (exfalso; simp_all; done) | skip)
  rintro b -
  simp only [keepS, lkp, push_cast, simprocAttr]
  (repeat' (first | (with_reducible intro hh; (first | subst hh | (revert hh; with_reducible intro _))) | with_reducible apply And.intro | refine eK E_ok ?_ | refine wA E_ok ?_ | exact trivial | contradiction)) <;> (first | (exact bad 15 _ (by decide)) | skip)
  have hnm : okN I ⟨paths.getD i default, 9, [ids.getD i default]⟩ := ⟨⟨by show 1 ≤ 1000000; decide, hps _ (getD_mem (by omega))⟩, Nat.le_refl _, fun y hy => by rw [List.mem_singleton.1 hy]; exact hi _ (getD_mem hlt)⟩
  refine EV_meetW (σ := Bool × RowH × GObject × Int) [0, 1, 4, 5, 6, 7, 8, 9, 20, 21, 22] (fun s => [(10, .rptr (bif s.1 then 3 else 4) s.2.1 36 0 0), (11, .int .i64 s.2.2.2)]) (fun B s => B ++ (bif s.1 then [.row s.2.1 41 36 [s.2.2.1.c]] else [.gone, .row s.2.1 41 36 [s.2.2.1.c]])) (fun s => okO I D s.2.2.1 ∧ s.2.2.1.Kind ≠ 1) ?_ ?_
  rotate_left 1
  · (repeat' (first | (with_reducible intro hh; (first | subst hh | (revert hh; with_reducible intro _))) | with_reducible apply And.intro | refine eK E_ok ?_ | (refine EC.giveN 3 rfl ?_) | (refine EC.giveN 4 rfl ?_) | (refine EC.useP (ec_ref09_AddK ro _ hro h0 hnm) ?_; rintro ⟨_, _⟩ _) | refine dM E_ok 11 [0, 1, 2, 3, 4, 5, 6, 7, 8, 9, 10, 11, 12, 13] [1, 2, 3, 4] fol fun R hR => ?_ | refine ed3 E_ok 0 5 12 ?_ ?_ ?_ | refine ed2 E_ok 5 12 ?_ ?_ | refine ed3 E_ok 0 6 12 ?_ ?_ ?_ | refine ed2 E_ok 0 5 ?_ ?_ | refine ed2 E_ok 6 12 ?_ ?_ | refine ed1 E_ok 5 ?_ | refine dP E_ok 8 [7] ?_ | refine ed2 E_ok 0 12 ?_ ?_ | refine ed2 E_ok 0 6 ?_ ?_ | refine dP E_ok 7 [7] ?_ | refine ed2 E_ok 8 12 ?_ ?_ | refine dR E_ok [6, 7, 8, 9, 10, 11, 13, 14] ?_ | refine dR E_ok [9, 10, 11, 13, 14] ?_ | refine ed1 E_ok 0 ?_ | refine dR E_ok [9, 10, 11, 12, 13, 14] ?_ | refine dR E_ok [8, 9, 10, 11, 13, 14] ?_ | (refine hR _ _ ?_; refine sA ?_) | refine wA E_ok ?_ | exact trivial | contradiction)) <;> (first | omega | (refine MT_mk (false, _, _, _) ?_; assumption) | (refine MT_mk (true, _, _, _) ?_; assumption) | skip)
  rintro ⟨s1, h3, ro2, e⟩ ⟨hro2, hk2⟩
  replace hro2 : okO I D ro2 := hro2
  simp only [keepS, lkp, push_cast, simprocAttr]
  have hdv : okO I D { (default : GObject) with ID := ids.getD i default, Kind := 9 } := okO_new h0 (by show (9 : Int) ≠ 1; decide) (hi _ (getD_mem hlt)) rfl (Nat.zero_le _) rfl rfl rfl rfl
  cases s1
  all_goals
    simp only [cond_true, cond_false, List.cons_append, List.nil_append, push_cast, simprocAttr]
    (repeat' (first | (with_reducible intro hh; (first | subst hh | (revert hh; with_reducible intro _))) | with_reducible apply And.intro | refine eK E_ok ?_ | refine EC.use (ec_ref17_New _) ?_ | refine EC.use (ec_ref18_Put s2 _ hsl2) ?_ | refine dM E_ok 8 [0, 1, 2, 3, 4, 5, 6, 7, 8, 9, 10, 11, 12, 13] [1, 2, 3] fol fun R hR => ?_ | refine ed2 E_ok 0 4 ?_ ?_ | refine ed1 E_ok 4 ?_ | refine ed2 E_ok 0 5 ?_ ?_ | refine dR E_ok [5, 6, 7, 8, 9, 10] ?_ | refine dR E_ok [6, 7, 8, 9, 10] ?_ | refine dR E_ok [7, 8, 9, 10] ?_ | refine ed1 E_ok 0 ?_ | (refine hR _ _ ?_; refine sA ?_) | refine wA E_ok ?_ | exact trivial | contradiction)) <;> (first | omega | skip)
  all_goals first
    | exact bad e _ (by simpa using ‹(e != 0) = true›)
    | (try simp only [hw]); exact NX_mk (i + 1, ro2, (putS s2 { (default : GObject) with ID := ids.getD i default, Kind := 9 }).1) ⟨by show i + 1 ≤ _; omega, hro2, hs2.put hdv, Nat.le_trans (putS_len _ _) (by show s2.Objects.length + 1 ≤ i + 1; omega)⟩
end
end Go.Proofs.YtfmldmafigpblaaGreatDoor
end
section
namespace Go.Proofs.YtfmldmafigpblaaGreatDoor
open Go.Lift
set_option linter.unusedSimpArgs false
set_option linter.unusedVariables false
set_option maxRecDepth 10000
set_option maxHeartbeats 1000000
section
variable {P : Program} {E : Env} {n : Nat} {k : Kn} {t : Slots} {B : List Own}
theorem EC.enterS (hE : EnvOK P E) {f : FuncId} {fn : Func} {c : Code} {args : List SV} {B : List Own} {Q : SV → List Own → Prop} (hc : callable P f = true) (hf : P.funcs[f]? = some fn) (hb : fn.body = some c) (hn : args.length ≤ fn.ntmps)
    (h : EV P fn.ntmps c (bindA 0 args) B (baK (retP E fn.results.toList Q)).f) : EC P f args B Q := EC.enter hE hc hf hb hn h
theorem EV_seq1 (hE : EnvOK P E) {x y : Code} (h : wl P E n x (thS P n y k) t B) : EV P n (.seq x y) t B k.f :=
  EV_seq fun K hK => (wl_sound hE x _ t B h).mono fun e t' B' hq => by
    cases e <;> try exact hq
    exact hK _ _ hq
theorem EV_meetQ {σ : Type} (live : List Nat) (V : σ → Slots) (R : List Own → σ → List Own) (Inv : σ → Prop) {x y : Code}
    (hrest : ∀ s, Inv s → EV P n y (V s ++ keepS t live) (R B s) k.f) (h : EV P n x t B (lpK (MT V (R B) Inv (keepS t live)) k).f) : EV P n (.seq x y) t B k.f :=
  EV_seq fun K hK => (EV_meetW (k := k) live V R Inv hrest h).mono fun e t' B' hq => by
    cases e <;> try exact hq
    exact hK _ _ hq
theorem EV_end (hE : EnvOK P E) {x : Code} (h : wl P E n x k t B) : EV P n x t B k.f := wl_sound hE _ _ _ _ h
end
abbrev WD := { d : GDice // wfD d }
theorem ec_NextS (h : RowH) (d : WD) (n : Int) : EC Tryz.prog 26 [.rptr 0 h 1 0 0, .int .i64 n] [dRow h d.1] fun r N => ∃ x : Int × WD, (0 ≤ x.1 ∧ x.1 ≤ 255 ∧ (1 ≤ n → x.1 < n)) ∧ r = .int .i64 x.1 ∧ N = [dRow h x.2.1] :=
  (ec_Next h d.1 n d.2).mono fun r N ⟨x, h1, h2, h3⟩ => ⟨(x.1, ⟨x.2, h1.2.2.2⟩), ⟨h1.1, h1.2.1, h1.2.2.1⟩, h2, h3⟩
theorem ec_wordS (h : RowH) (d : WD) : EC Tryz.prog 115 [.rptr 0 h 1 0 0] [dRow h d.1] fun r N => ∃ x : Int × WD, True ∧ r = .int .i64 x.1 ∧ N = [dRow h x.2.1] :=
  (ec_word h d.1 d.2).mono fun r N ⟨x, h1, h2, h3⟩ => ⟨(x.1, ⟨x.2, h1⟩), trivial, h2, h3⟩
attribute [local irreducible] EC EV
theorem ec_registerS (h : RowH) (d : WD) : EC Tryz.prog 116 [.rptr 0 h 1 0 0] [dRow h d.1] fun r N => ∃ x : Int × WD, True ∧ r = .int .i64 x.1 ∧ N = [dRow h x.2.1] := by
  refine EC.finKE ?_
  (refine nK E_ok call_116 Tryz.func116 Tryz.ntmps116 Tryz.results116 ?_)
  (repeat' (first | (with_reducible intro hh; (first | subst hh | (revert hh; with_reducible intro _))) | with_reducible apply And.intro | refine eK E_ok ?_ | (refine aE 0 (ec_NextS h d 8) rfl ?_; rintro ⟨_, _⟩ _) | exact trivial | contradiction)) <;> (first | (exact ⟨(_, _), Lk.int rfl, rfl⟩) | skip)
theorem FkA.aggI {m : Nat} {B : List Own} {x y : GInstr} (h : x = y) : FkA m B (.agg x.c) (.agg y.c) := by subst h; exact FkA.agg (cs := x.c) (ds := x.c) (by rw [GInstr.fk]; trivial) (by rw [GInstr.fz]; exact LLe.refl _)
theorem Lk.aggI {m : Nat} {B : List Own} {x y : GInstr} (h : x = y) : Lk m B (.agg x.c) (.agg y.c) := by
  subst h
  refine ⟨?_, ?_⟩
  · simp only [frzKT, frzKA]; rw [GInstr.fk]; trivial
  · simp only [frzT, frzA]; rw [GInstr.fz]; exact SLe.refl _
theorem ec_InstrS (h : RowH) (d : WD) (code : Int) : EC Tryz.prog 101 [.rptr 0 h 1 0 0, .int .i64 code] [dRow h d.1] fun r N => ∃ x : GInstr × WD, True ∧ r = .agg x.1.c ∧ N = [dRow h x.2.1] := by
  refine EC.finKE ?_
  (refine nK E_ok call_101 Tryz.func101 Tryz.ntmps101 Tryz.results101 ?_)
  (repeat' (first | (with_reducible intro hh; (first | subst hh | (revert hh; with_reducible intro _))) | with_reducible apply And.intro | refine eK E_ok ?_ | (refine aE 0 (ec_registerS h _) rfl ?_; rintro ⟨_, _⟩ _) | (refine aE 0 (ec_wordS h _) rfl ?_; rintro ⟨_, _⟩ _) | (refine aE 0 (ec_NextS h _ _) rfl ?_; rintro ⟨_, _⟩ _) | exact trivial | contradiction)) <;> (first | (exact ⟨(_, _), Lk.aggI rfl, rfl⟩) | skip)
theorem ec_Paths : EC Tryz.prog 99 [] [] fun r N => N = [] ∧ ∃ l : List (List UInt8), (l.length = 8) ∧ r = slL 1 strC default l := by
  refine EC.finKP ?_
  (refine nK E_ok call_99 Tryz.func99 Tryz.ntmps99 Tryz.results99 ?_)
  intro fr
  exact ⟨[[47, 100, 101, 118], [47, 102], [47, 112, 111, 114, 116], [47, 115, 101, 109], [47, 115, 104, 109], [47, 103], [98, 97, 100], [47, 102, 47, 103]], rfl, Lt.row rfl rfl rfl⟩
end Go.Proofs.YtfmldmafigpblaaGreatDoor
end
section
namespace Go.Proofs.YtfmldmafigpblaaGreatDoor
open Go.Lift
set_option linter.unusedSimpArgs false
set_option linter.unusedVariables false
set_option maxRecDepth 10000
set_option maxHeartbeats 1000000
theorem lit3 (a b c : Int) (k : Nat) (h : k < 3) : ([[SV.int .i64 a], [SV.int .i64 b], [SV.int .i64 c]].getD k []).getD 0 .any = .int .i64 ([a, b, c].getD k 0) := lit_get [a, b, c] k h
theorem lit4 (a b c d : Int) (k : Nat) (h : k < 4) : ([[SV.int .i64 a], [SV.int .i64 b], [SV.int .i64 c], [SV.int .i64 d]].getD k []).getD 0 .any = .int .i64 ([a, b, c, d].getD k 0) := lit_get [a, b, c, d] k h
theorem lit5 (a b c d e : Int) (k : Nat) (h : k < 5) : ([[SV.int .i64 a], [SV.int .i64 b], [SV.int .i64 c], [SV.int .i64 d], [SV.int .i64 e]].getD k []).getD 0 .any = .int .i64 ([a, b, c, d, e].getD k 0) := lit_get [a, b, c, d, e] k h
theorem Lk.row {α : Type} {m : Nat} {B : List Own} {i e n E : Nat} {h : RowH} {xs : List (List SV)} {cells : α → List SV} {d : α} {l : List α} (hm : m ≤ i) (hB : getD' B i = .row h E e xs) (hx : xs = l.map cells) (hn : n = l.length) : Lk m B (.row i h e 0 n) (slL e cells d l) := by
  subst hx hn
  have hsel : fromM m i = true := by simpa [fromM] using hm
  refine ⟨?_, ?_⟩
  · simp only [frzKT, frzKA, frzKC, hsel, hB]; exact ⟨trivial, trivial, by simp⟩
  · simp only [frzT, frzA, frzC, hsel, hB]
    exact SLe.sl (fun h => h) (.inr rfl) fun k hk => by simp [List.getD, hk, elt]
def insT (op a b : Int) : GInstr := { (default : GInstr) with Op := op, A := a, B := b }
attribute [local irreducible] EC EV
theorem ec_BlockS (h : RowH) (d : WD) : EC Tryz.prog 100 [.rptr 0 h 1 0 0] [dRow h d.1] fun r N => ∃ x : List GInstr × WD, x.1.length ≤ 4 ∧ r = slL 4 GInstr.c default x.1 ∧ N = [dRow h x.2.1] := by
  refine EC.finKE ?_
  refine EC.enterS E_ok call_100 Tryz.func100 rfl (by simp [Tryz.ntmps100]) ?_
  simp only [Tryz.ntmps100, Tryz.results100, bindA]
  refine EV_seq1 E_ok ?_
  simp only [push_cast, simprocAttr]
  refine EV_meetQ (σ := Int × WD) [0] (fun s => [(3, .int .i64 s.1)]) (fun B s => updX B 0 [s.2.1.c]) (fun _ => True) ?_ ?_
  rotate_left 1
  · refine EV_end E_ok ?_
    simp only [push_cast, simprocAttr]
    intro fr
    refine EC.useAtK E_ok 0 (ec_NextS h d 27) rfl (by (repeat (first | exact LLe.nil | refine LLe.cons (SLe.refl _) ?_ | refine LLe.cons SLe.rptr ?_))) ?_
    rintro ⟨x, d1⟩ ⟨hx1, hx2, hx3⟩
    have e := lit_get [2, 3, 4, 5, 6, 7, 7, 8, 9, 10, 9, 10, 11, 12, 13, 14, 15, 16, 17, 18, 19, 20, 21, 22, 23, 24, 1] x.toNat (by simp at hx1 hx3 ⊢; omega)
    simp only [List.map_cons, List.map_nil] at e
    simp only [e, push_cast, simprocAttr]
    exact ⟨⟨hx1, by simp at hx3; omega⟩, by simp at hx1 hx3; omega, MT_mk (_, d1) trivial⟩
  rintro ⟨n, d1⟩ -
  simp only [keepS, lkp, push_cast, simprocAttr]
  refine EV_meetQ (σ := Int × Int × WD) [0, 3] (fun s => [(4, .int .i64 s.1), (5, .int .i64 s.2.1)]) (fun B s => updX B 0 [s.2.2.1.c]) (fun _ => True) ?_ ?_
  rotate_left 1
  · refine EV_end E_ok ?_
    simp only [push_cast, simprocAttr]
    (repeat' (first | (with_reducible intro hh; (first | subst hh | (revert hh; with_reducible intro _))) | with_reducible apply And.intro | refine eK E_ok ?_ | (refine aE 0 (ec_NextS h _ _) rfl ?_; rintro ⟨_, _⟩ _) | exact trivial | contradiction)) <;> (first | (exact MT_mk (_, _, _) trivial) | skip)
  rintro ⟨a, b, d2⟩ -
  simp only [keepS, lkp, push_cast, simprocAttr]
  refine EV_meetQ (σ := Int × Int × WD) [0, 3] (fun s => [(4, .int .i64 s.1), (5, .int .i64 s.2.1)]) (fun B s => updX B 0 [s.2.2.1.c]) (fun _ => True) ?_ ?_
  rotate_left 1
  · refine EV_end E_ok ?_
    simp only [push_cast, simprocAttr]
    (repeat' (first | (with_reducible intro hh; (first | subst hh | (revert hh; with_reducible intro _))) | with_reducible apply And.intro | refine eK E_ok ?_ | (refine aE 0 (ec_NextS h _ _) rfl ?_; rintro ⟨_, _⟩ _) | (refine aE 0 (ec_wordS h _) rfl ?_; rintro ⟨_, _⟩ _) | refine dM E_ok 7 [0, 1, 2, 3, 4, 5, 6, 7, 8, 9, 10, 11, 12, 13] [1, 5] fol fun R hR => ?_ | refine dM E_ok 7 [0, 1, 2, 3, 4, 5, 6, 7, 8, 9, 10, 11, 12, 13] [1, 5] fol fun R hR => ?_ | refine ed2 E_ok 0 2 ?_ ?_ | refine ed1 E_ok 2 ?_ | refine ed2 E_ok 0 6 ?_ ?_ | refine dP E_ok 4 [3] ?_ | refine ed2 E_ok 4 6 ?_ ?_ | refine ed1 E_ok 0 ?_ | refine dR E_ok [6, 7, 8] ?_ | refine dR E_ok [7, 8] ?_ | refine ed1 E_ok 4 ?_ | refine dP E_ok 3 [3] ?_ | (refine hR _ _ ?_; refine sA ?_) | exact trivial | contradiction)) <;> (first | ((try simp only at *); (try simp (disch := omega) only [lit3, lit4, lit5]); exact MT_mk (_, _, _) trivial) | ((try simp only at *); omega) | skip)
  rintro ⟨a2, b2, d3⟩ -
  simp only [keepS, lkp, push_cast, simprocAttr]
  refine EV_end E_ok ?_
  simp only [push_cast, simprocAttr]
  (repeat' (first | (with_reducible intro hh; (first | subst hh | (revert hh; with_reducible intro _))) | with_reducible apply And.intro | refine eK E_ok ?_ | exact trivial | contradiction)) <;> (first | (rename_i hmem; simp only [List.mem_cons, List.not_mem_nil, or_false] at hmem; rcases hmem with rfl | rfl <;> exact GInstr.sol _) | skip)
  · rename_i f1 h5 f2
    refine EC.useAtK E_ok 0 (ec_NextS h _ 3) rfl (by (repeat (first | exact LLe.nil | refine LLe.cons (SLe.refl _) ?_ | refine LLe.cons SLe.rptr ?_))) ?_
    rintro ⟨x, d4⟩ ⟨hx1, hx2, hx3⟩
    simp only at hx1 hx2 hx3
    have e := lit3 0 5 6 x.toNat (by omega)
    simp only [e, push_cast, simprocAttr]
    (repeat' (first | (with_reducible intro hh; (first | subst hh | (revert hh; with_reducible intro _))) | with_reducible apply And.intro | refine eK E_ok ?_ | exact trivial | contradiction)) <;> (first | omega | (rename_i hmem; simp only [List.mem_cons, List.not_mem_nil, or_false] at hmem; rcases hmem with rfl | rfl <;> exact GInstr.sol _) | skip)
    · refine EC.useAtK E_ok 0 (ec_NextS h _ 2) rfl (by (repeat (first | exact LLe.nil | refine LLe.cons (SLe.refl _) ?_ | refine LLe.cons SLe.rptr ?_))) ?_
      rintro ⟨y, d5⟩ -
      simp only [push_cast, simprocAttr]
      (repeat' (first | (with_reducible intro hh; (first | subst hh | (revert hh; with_reducible intro _))) | with_reducible apply And.intro | refine eK E_ok ?_ | exact trivial | contradiction))
      exact ⟨([insT 2 1 ([0, 5, 6].getD x.toNat 0), insT 1 2 b2, insT 12 n 0, insT 2 (IntKind.i64.wrap (5 + y)) 0], d5), by show 4 ≤ 4; decide, Lk.row (by decide) rfl rfl rfl, rfl⟩
    · exact ⟨([insT 2 1 ([0, 5, 6].getD x.toNat 0), insT 1 2 b2, insT 12 n 0], d4), by show 3 ≤ 4; decide, Lk.row (by decide) rfl rfl rfl, rfl⟩
  · refine EC.useAtK E_ok 0 (ec_NextS h _ 2) rfl (by (repeat (first | exact LLe.nil | refine LLe.cons (SLe.refl _) ?_ | refine LLe.cons SLe.rptr ?_))) ?_
    rintro ⟨y, d5⟩ -
    simp only [push_cast, simprocAttr]
    (repeat' (first | (with_reducible intro hh; (first | subst hh | (revert hh; with_reducible intro _))) | with_reducible apply And.intro | refine eK E_ok ?_ | exact trivial | contradiction))
    exact ⟨([insT 1 1 a2, insT 1 2 b2, insT 12 n 0, insT 2 (IntKind.i64.wrap (5 + y)) 0], d5), by show 4 ≤ 4; decide, Lk.row (by decide) rfl rfl rfl, rfl⟩
  · exact ⟨([insT 1 1 a2, insT 1 2 b2, insT 12 n 0], d3), by show 3 ≤ 4; decide, Lk.row (by decide) rfl rfl rfl, rfl⟩
end Go.Proofs.YtfmldmafigpblaaGreatDoor
end
section
namespace Go.Proofs.YtfmldmafigpblaaGreatDoor
open Go.Lift
set_option linter.unusedSimpArgs false
set_option linter.unusedVariables false
set_option maxRecDepth 10000
set_option maxHeartbeats 1000000
def zrPr : List SV := [.sl true 0 0 fun _ => [], .sl true 0 0 fun _ => [], .int .i64 0]
theorem tb2 (a b : Int) (c : Bool) : [[SV.int .i64 a], [SV.int .i64 b]].getD (Int.toNat (bif c then 1 else 0)) [] = [SV.int .i64 (bif c then b else a)] := by cases c <;> rfl
theorem tb2a (c : Bool) : (0 ≤ (bif c then (1 : Int) else 0)) = True := by cases c <;> simp
theorem tb2b (c : Bool) : ((bif c then (1 : Int) else 0) < 2) = True := by cases c <;> simp
theorem tb2c (c : Bool) : (Int.toNat (bif c then (1 : Int) else 0) < 2) = True := by cases c <;> simp
attribute [push_cast] tb2 tb2a tb2b tb2c
theorem ec_Next2 (h : RowH) (d : WD) : EC Tryz.prog 26 [.rptr 0 h 1 0 0, .int .i64 2] [dRow h d.1] fun r N => ∃ x : Bool × WD, True ∧ r = .int .i64 (bif x.1 then 1 else 0) ∧ N = [dRow h x.2.1] :=
  (ec_NextS h d 2).mono fun r N ⟨x, h1, h2, h3⟩ => by
    have hx : x.1 = 0 ∨ x.1 = 1 := by have := h1.2.2 (by decide); omega
    rcases hx with hx | hx
    · exact ⟨(false, x.2), trivial, by rw [h2, hx]; rfl, h3⟩
    · exact ⟨(true, x.2), trivial, by rw [h2, hx]; rfl, h3⟩
theorem Lk.prog {m : Nat} {B : List Own} {i n E : Nat} {h : RowH} {xs : List (List SV)} {l : List GInstr} {st : List (List UInt8)} {pg : Int} (hm : m ≤ i) (hB : getD' B i = .row h E 4 xs) (hx : xs = l.map GInstr.c) (hn : n = l.length) : Lk m B (.agg [.row i h 4 0 n, .sl false 1 st.length (elt strC default st), .int .i64 pg]) (.agg (GProgram.mk l st pg).c) := by
  subst hx hn
  have hsel : fromM m i = true := by simpa [fromM] using hm
  refine ⟨?_, ?_⟩
  · simp only [frzKT, frzKA, frzKL, frzKC, hsel, hB]; exact ⟨⟨trivial, trivial, by simp⟩, trivial, trivial, trivial⟩
  · simp only [frzT, frzA, frzL, frzC, hsel, hB]
    refine SLe.agg (.cons ?_ (.cons (SLe.refl _) (.cons (SLe.refl _) .nil)))
    exact SLe.sl (fun h => h) (.inr rfl) fun k hk => by simp [List.getD, hk, elt]
theorem pl31 (a b c x : SV) : putL [a, b, c] 0 [x] = [x, b, c] := rfl
theorem pl33 (a b c x y z : SV) : putL [a, b, c] 0 [x, y, z] = [x, y, z] := rfl
attribute [push_cast] pl31 pl33
namespace NilProg
def E2 : Env := { E with zr := fun T => if T = 27 then zrPr else E.zr T }
theorem E2_ok : EnvOK Tryz.prog E2 := ⟨E_ok.ty, fun T h => by
  simp only [E2] at h ⊢
  split
  · rename_i e; subst e; kernel_rfl
  · rename_i e; simp only [e, if_false] at h; exact E_ok.zr T h, E_ok.lv⟩
theorem E2_ty (T : Nat) : E2.ty T = E.ty T := rfl
theorem E2_lv (T : Nat) : E2.lv T = E.lv T := rfl
theorem E2_zr : E2.zr 27 = zrPr := rfl
theorem E2_kp : E2.kp = false := rfl
theorem E2_zr3 : E2.zr 3 = E.zr 3 := rfl
theorem E2_zrI : E2.zr 106 = E.zr 106 := rfl
theorem zrPr_len : zrPr.length = 3 := rfl
theorem zrPr_sol : solids zrPr = true := rfl
theorem zrPr_t : zrPr.take 3 = zrPr := rfl
attribute [push_cast] E2_ty E2_lv E2_zr E2_kp E2_zr3 E2_zrI zrPr_len zrPr_sol zrPr_t
attribute [local irreducible] EC EV
theorem ec_ProgramS (h : RowH) (d : WD) : EC Tryz.prog 79 [.rptr 0 h 1 0 0] [dRow h d.1] fun r N => ∃ x : GProgram × WD, (x.1.Code.length ≤ 100 ∧ x.1.Strings.length ≤ 8 ∧ 0 ≤ x.1.Pages ∧ x.1.Pages < 3) ∧ r = .agg x.1.c ∧ N = [dRow h x.2.1] := by
  refine EC.finKE ?_
  refine EC.enterS E2_ok call_79 Tryz.func79 rfl (by simp [Tryz.ntmps79]) ?_
  simp only [Tryz.ntmps79, Tryz.results79, bindA]
  refine EV_seq1 E2_ok ?_
  simp only [push_cast, simprocAttr]
  intro fr0
  refine EV_seq1 E2_ok ?_
  simp only [push_cast, simprocAttr]
  (repeat' (first | (with_reducible intro hh; (first | subst hh | (revert hh; with_reducible intro _))) | with_reducible apply And.intro | refine eK E2_ok ?_ | (refine EC.useP (ec_Paths) ?_; rintro _ _) | (refine aE 0 (ec_NextS h _ _) rfl ?_; rintro ⟨_, _⟩ _) | exact trivial | contradiction))
  rename_i strs hstr pg d1 hpg f1
  simp only at hpg
  simp only [zrPr, putL, List.set_cons_zero, List.set_cons_succ]
  refine EV_matrC 2 0 0 106 4 (by simp) rfl rfl rfl ?_
  intro hc
  simp only [List.length_cons, List.length_nil, List.set_cons_zero, List.set_cons_succ, List.cons_append, List.nil_append, Nat.zero_add]
  refine EV_seqT ?_
  refine EV_meetQ (σ := Int × WD) [0, 2, 3] (fun s => [(4, .int .i64 s.1)]) (fun B s => updX B 0 [s.2.1.c]) (fun s => 0 ≤ s.1 ∧ s.1 ≤ 10) ?_ ?_
  rotate_left 1
  · refine EV_end E2_ok ?_
    simp only [push_cast, simprocAttr]
    (repeat' (first | (with_reducible intro hh; (first | subst hh | (revert hh; with_reducible intro _))) | with_reducible apply And.intro | refine eK E2_ok ?_ | (refine aE 0 (ec_NextS h _ _) rfl ?_; rintro ⟨_, _⟩ _) | exact trivial | contradiction))
    rename_i x d2 hx
    simp only at hx
    exact MT_mk (_, d2) ⟨by show 0 ≤ IntKind.i64.wrap (2 + x); rw [i64_in' (by omega)]; omega, by show IntKind.i64.wrap (2 + x) ≤ 10; rw [i64_in' (by omega)]; omega⟩
  rintro ⟨n, d2⟩ ⟨hn0, hn1⟩
  simp only [keepS, lkp, push_cast, simprocAttr]
  refine EV_blkS ?_
  refine EV_loopS [0, 2, 3] (fun s : Int × WD × List GInstr × RowH => [(4, .int .i64 s.1)]) (fun B s => updH (updX (updX B 0 [s.2.1.1.c]) 2 [[.row 3 s.2.2.2 4 0 s.2.2.1.length, .sl false 1 strs.length (elt strC default strs), .int .i64 pg]]) 3 s.2.2.2 (s.2.2.1.map GInstr.c)) (fun s => 0 ≤ s.1 ∧ s.1 ≤ 10 ∧ (s.2.2.1.length : Int) + 6 * s.1 ≤ 60) (fun s => s.1.toNat) (n, d2, [], hc) ⟨hn0, hn1, by show (0 : Int) + 6 * n ≤ 60; simp only at hn1; omega⟩ ?_
  rintro ⟨n, d2, code, hc⟩ ⟨hn0, hn1, hcl⟩
  simp only at hn0 hn1 hcl
  simp only [keepS, lkp, push_cast, simprocAttr]
  refine EV_seqT ?_
  refine EV_end E2_ok ?_
  simp only [push_cast, simprocAttr]
  refine ⟨fun hcn => ?_, fun hcn => ?_⟩
  · refine EV_meetQ (σ := WD × List GInstr × RowH) [0, 2, 3, 4] (fun s => []) (fun B s => updH (updX (updX B 0 [s.1.1.c]) 2 [[.row 3 s.2.2 4 0 s.2.1.length, .sl false 1 strs.length (elt strC default strs), .int .i64 pg]]) 3 s.2.2 (s.2.1.map GInstr.c)) (fun s => s.2.1.length ≤ code.length + 6) ?_ ?_
    rotate_left 1
    · refine EV_blkS ?_
      refine EV_meetQ (σ := WD × List GInstr × RowH) [0, 2, 3, 4] (fun s => []) (fun B s => updH (updX (updX B 0 [s.1.1.c]) 2 [[.row 3 s.2.2 4 0 s.2.1.length, .sl false 1 strs.length (elt strC default strs), .int .i64 pg]]) 3 s.2.2 (s.2.1.map GInstr.c)) (fun s => s.2.1.length ≤ code.length + 4) ?_ ?_
      rotate_left 1
      · refine EV_end E2_ok ?_
        simp only [push_cast, simprocAttr]
        (repeat' (first | (with_reducible intro hh; (first | subst hh | (revert hh; with_reducible intro _))) | with_reducible apply And.intro | refine eK E2_ok ?_ | (refine aE 0 (ec_BlockS h _) rfl ?_; rintro ⟨_, _⟩ _) | refine dM E2_ok 5 [0, 1, 2, 3, 4, 5, 6, 7, 8, 9, 10, 11, 12, 13] [0, 2] fol fun R hR => ?_ | refine ed2 E2_ok 1 3 ?_ ?_ | refine dR E2_ok [3, 4, 5, 6] ?_ | refine dR E2_ok [4, 5, 6] ?_ | refine ed1 E2_ok 1 ?_ | (refine hR _ _ ?_; refine sA ?_) | exact trivial | contradiction)) <;> (first | ((try simp only at *); omega) | skip)
        all_goals
          rename_i x d3 hx hh
          simp only at hx
          exact MT_mk (d3, code ++ x, hh) (by show (code ++ x).length ≤ code.length + 4; simp; omega) (hb := by simp [updX, updH, setX, putL])
      rintro ⟨d3, code3, hc3⟩ hl3
      replace hl3 : code3.length ≤ code.length + 4 := hl3
      simp only [keepS, lkp, push_cast, simprocAttr]
      refine EV_meetQ (σ := WD × List GInstr × RowH) [0, 2, 3, 4] (fun s => []) (fun B s => updH (updX (updX B 0 [s.1.1.c]) 2 [[.row 3 s.2.2 4 0 s.2.1.length, .sl false 1 strs.length (elt strC default strs), .int .i64 pg]]) 3 s.2.2 (s.2.1.map GInstr.c)) (fun s => s.2.1.length ≤ code.length + 5) ?_ ?_
      rotate_left 1
      · refine EV_end E2_ok ?_
        simp only [push_cast, simprocAttr]
        (repeat' (first | (with_reducible intro hh; (first | subst hh | (revert hh; with_reducible intro _))) | with_reducible apply And.intro | refine eK E2_ok ?_ | (refine EC.useAtE 0 (ec_Next2 h _) rfl (LLe.cons SLe.rptr (LLe.cons (SLe.refl _) LLe.nil)) ?_; rintro ⟨_, _⟩ _) | (refine aE 0 (ec_NextS h _ _) rfl ?_; rintro ⟨_, _⟩ _) | refine dJ E2_ok 10 [13] [0, 3] [0, 1, 3, 7] fol fun R hR => ?_ | refine ej2 E2_ok 2 4 ?_ ?_ | refine ej1 E2_ok 4 ?_ | refine ej2 E2_ok 2 8 ?_ ?_ | refine jP E2_ok 7 [5] ?_ | refine ej2 E2_ok 6 8 ?_ ?_ | refine ej1 E2_ok 2 ?_ | refine ej1 E2_ok 8 ?_ | refine ej1 E2_ok 6 ?_ | refine jP E2_ok 6 [5] ?_ | refine jP E2_ok 4 [9] ?_ | refine ej1 E2_ok 10 ?_ | refine ej1 E2_ok 11 ?_ | refine dR E2_ok [12, 13] ?_ | (refine hR _ _ ?_; refine sA ?_) | exact trivial | contradiction)) <;> (first | ((try simp only at *); omega) | (refine MT_mk (_, code3, hc3) (by show code3.length ≤ _; omega)) | exact GInstr.sol _ | skip)
        all_goals first
          | (rename_i f2 b d4 _ x d5 _ f3 hh; exact MT_mk (d5, code3 ++ [⟨bif b then 11 else 10, 4, 7, x⟩], hh) (by show (code3 ++ [_]).length ≤ code.length + 5; simp; omega) (hb := by simp [updX, updH, setX, putL]))
          | (rename_i b d4 _ f2 x d5 _ f3 hh; exact MT_mk (d5, code3 ++ [⟨bif b then 11 else 10, 4, 7, x⟩], hh) (by show (code3 ++ [_]).length ≤ code.length + 5; simp; omega) (hb := by simp [updX, updH, setX, putL]))
          | (rename_i b d4 _ x d5 _ f2 f3 hh; exact MT_mk (d5, code3 ++ [⟨bif b then 11 else 10, 4, 7, x⟩], hh) (by show (code3 ++ [_]).length ≤ code.length + 5; simp; omega) (hb := by simp [updX, updH, setX, putL]))
      rintro ⟨d4, code4, hc4⟩ hl4
      replace hl4 : code4.length ≤ code.length + 5 := hl4
      simp only [keepS, lkp, push_cast, simprocAttr]
      refine EV_end E2_ok ?_
      simp only [push_cast, simprocAttr]
      (repeat' (first | (with_reducible intro hh; (first | subst hh | (revert hh; with_reducible intro _))) | with_reducible apply And.intro | refine eK E2_ok ?_ | (refine aE 0 (ec_NextS h _ _) rfl ?_; rintro ⟨_, _⟩ _) | (refine aE 0 (ec_InstrS h _ _) rfl ?_; rintro ⟨_, _⟩ _) | exact trivial | contradiction)) <;> (first | ((try simp only at *); omega) | (exact MT_mk (_, code4, hc4) (by show code4.length ≤ _; omega)) | exact GInstr.sol _ | skip)
      rename_i x d5 _ f3 f4
      exact MT_mk (d5, code4 ++ [x], f4 4) (by show (code4 ++ [x]).length ≤ code.length + 6; simp; omega) (hb := by simp [updX, updH, setX, putL])
    rintro ⟨d3, code3, hc3⟩ hl3
    replace hl3 : code3.length ≤ code.length + 6 := hl3
    simp only [keepS, lkp, push_cast, simprocAttr]
    refine EV_end E2_ok ?_
    have hw : IntKind.i64.wrap (n - 1) = n - 1 := i64_in' (by omega)
    simp only [hw, push_cast, simprocAttr]
    have hn2 : 0 < n := by simpa using hcn
    exact NX_mk (n - 1, d3, code3, hc3) ⟨by show 0 ≤ n - 1; omega, by show n - 1 ≤ 10; omega, by show (code3.length : Int) + 6 * (n - 1) ≤ 60; omega⟩ (by show (n - 1).toNat < n.toNat; omega)
  refine EV_end E2_ok ?_
  have hcl2 : code.length ≤ 60 := by omega
  simp only [push_cast, simprocAttr]
  (repeat' (first | (with_reducible intro hh; (first | subst hh | (revert hh; with_reducible intro _))) | with_reducible apply And.intro | refine eK E2_ok ?_ | (refine aE 0 (ec_NextS h _ _) rfl ?_; rintro ⟨_, _⟩ _) | exact trivial | contradiction)) <;> (first | ((try simp only at *); omega) | exact GInstr.sol _ | skip)
  · rename_i x d5 hx _ f3
    simp only at hx
    exact ⟨(⟨code ++ [{ (default : GInstr) with Op := 8 }], strs, pg⟩, _), ⟨by show (code ++ [_]).length ≤ 100; simp; omega, by show strs.length ≤ 8; omega, hpg.1, hpg.2.2 (by decide)⟩, Lk.prog (by decide) rfl (by simp) (by simp), rfl⟩
  · exact ⟨(⟨code, strs, pg⟩, _), ⟨by show code.length ≤ 100; omega, by show strs.length ≤ 8; omega, hpg.1, hpg.2.2 (by decide)⟩, Lk.prog (by decide) rfl rfl rfl, rfl⟩
end NilProg
end Go.Proofs.YtfmldmafigpblaaGreatDoor
end
section
namespace Go.Proofs.YtfmldmafigpblaaGreatDoor
open Go.Lift
set_option linter.unusedSimpArgs false
set_option linter.unusedVariables false
set_option maxRecDepth 10000
set_option maxHeartbeats 1000000
def below (s x : Int) : Prop := x ≤ s
structure okK (L S : Nat) (k : GKernel) : Prop where
  ex : ∃ D : Int → Prop, okS (below k.Serial) D k.Store ∧ ∀ x, D x → x ≤ k.Serial
  ln : k.Store.Objects.length ≤ L
  lo : 2 ≤ k.Serial
  hi : k.Serial ≤ S
theorem okK.le {L S L' S' : Nat} {k : GKernel} (h : okK L S k) (h1 : L ≤ L') (h2 : S ≤ S') : okK L' S' k := ⟨h.ex, Nat.le_trans h.ln h1, h.lo, by have := h.hi; omega⟩
theorem idsF_mem {s x : Int} {n : Nat} : x ∈ idsF s n ↔ s + 1 ≤ x ∧ x ≤ s + n := by
  unfold idsF
  simp only [List.mem_map, List.mem_range]
  constructor
  · rintro ⟨i, hi, rfl⟩; omega
  · intro h; exact ⟨(x - s - 1).toNat, by omega, by omega⟩
theorem idsF_new {s : Int} {n : Nat} (hs : 0 ≤ s) (hn : n ≤ 64) : newIds (below s) (idsF s n) := by
  refine ⟨by rw [idsF_len]; exact hn, fun x hx => by have := idsF_mem.1 hx; omega, fun x hx hb => by have := idsF_mem.1 hx; unfold below at hb; omega, ?_⟩
  unfold idsF
  rw [List.nodup_iff_pairwise_ne, List.pairwise_map]
  exact List.Pairwise.imp (fun h e => h (by omega)) (List.nodup_iff_pairwise_ne.1 List.nodup_range)
theorem idsF_take {s : Int} {n : Nat} {u : Int} (hu : 0 ≤ u ∧ u ≤ n) : ∀ x, jt (below s) (idsF s n) u x → below (s + u) x := by
  intro x hx
  rcases hx with hx | hx
  · unfold below at hx ⊢; omega
  · unfold below
    obtain ⟨i, hi, rfl⟩ := List.mem_take_iff_getElem.1 hx
    simp [idsF] at hi ⊢
    omega
attribute [local irreducible] EC EV getS putS remS
theorem FzA.aggK {B : List Own} {x y : GKernel} (h : x = y) : FzA B (.agg x.c) (.agg y.c) := by subst h; exact FzA.agg (FzL.obj (cs := x.c) (fun s B => by rw [GKernel.fk]) (fun s B => by rw [GKernel.fz]))
theorem Lt.aggK {B : List Own} {x y : GKernel} (h : x = y) : Lt B (.agg x.c) (.agg y.c) := by subst h; exact Lt.agg (FzL.obj (cs := x.c) (fun s B => by rw [GKernel.fk]) (fun s B => by rw [GKernel.fz]))
theorem ec_made_Started {L S : Nat} (k : GKernel) (p : GProgram) (hk : okK L S k) (hL : L ≤ 500000) (hS : S ≤ 500000) (hc : p.Code.length ≤ 100) (hp : p.Strings.length ≤ 8) (hg : 0 ≤ p.Pages ∧ p.Pages < 3) : EC Tryz.prog 78 [.agg k.c, .agg p.c] [] fun r N => N = [] ∧ ∃ x : GKernel, okK (L + 65) (S + 3) x ∧ r = .agg x.c := by
  refine EC.finKP ?_
  (refine nK E_ok call_78 Tryz.func78 Tryz.ntmps78 Tryz.results78 ?_)
  obtain ⟨D, hs, hd⟩ := hk.ex
  have hlo := hk.lo
  have hhi := hk.hi
  obtain ⟨n, hn⟩ := Int.eq_ofNat_of_zero_le (show 0 ≤ 1 + p.Pages by omega)
  have hn3 : n ≤ 3 := by omega
  have hw1 : IntKind.i64.wrap (1 + p.Pages) = (n : Int) := by rw [i64_in' (by omega)]; exact hn
  have hid := idsF_new (s := k.Serial) (n := n) (by omega) (by omega)
  have hw2 : IntKind.i64.wrap (((idsF k.Serial n).length : Nat) : Int) = n := by rw [idsF_len]; exact i64_in' (by omega)
  intro fr
  simp only [hw1]
  (refine EC.use (ec_made_Fresh k n (by omega) (by omega)) ?_; refine eK E_ok ?_)
  (repeat' (first | (with_reducible intro hh; (first | subst hh | (revert hh; with_reducible intro _))) | with_reducible apply And.intro | refine eK E_ok ?_ | (refine EC.useP (ec_ref20_Start k.Store p _ (by show (0 : Int) ≤ k.Serial; omega) hs hk.ln (by omega) (by omega) (by omega) hid hd) ?_; rintro ⟨_, _⟩ _) | exact trivial | contradiction))
  · rename_i s2 e hx _ he
    have h2 := hx (by simpa using he)
    have hw3 : IntKind.i64.wrap (k.Serial + ((idsF k.Serial n).length : Nat)) = k.Serial + n := by rw [idsF_len]; exact i64_in' (by omega)
    rw [hw3]
    refine ⟨⟨s2, k.Serial + n⟩, ⟨⟨D, h2.1.mono fun y hy => ?_, fun x hx => by have := hd x hx; show x ≤ k.Serial + n; omega⟩, h2.2, by show 2 ≤ k.Serial + n; omega, by show k.Serial + n ≤ ((S + 3 : Nat) : Int); omega⟩, Lt.aggK rfl⟩
    show y ≤ k.Serial + n
    rcases hy with hy | hy
    · have : y ≤ k.Serial := hy; omega
    · exact (idsF_mem.1 hy).2
  · exact ⟨k, hk.le (by omega) (by omega), Lt.aggK rfl⟩
theorem ec_made_Pick {L : Nat} (h : RowH) (d : WD) (s : GStore) (hl : s.Objects.length ≤ 1000000) : EC Tryz.prog 80 [.rptr 0 h 1 0 0, .agg s.c] [dRow h d.1] fun r N => ∃ x : (Int × Bool) × WD, True ∧ r = .tup [.int .u64 x.1.1, .bool x.1.2] ∧ N = [dRow h x.2.1] := by
  refine EC.finKE ?_
  (refine nK E_ok call_80 Tryz.func80 Tryz.ntmps80 Tryz.results80 ?_)
  (repeat' (first | (with_reducible intro hh; (first | subst hh | (revert hh; with_reducible intro _))) | with_reducible apply And.intro | refine eK E_ok ?_ | (refine EC.useP (ec_ref20_Runnable s hl) ?_; rintro _ _) | (refine aE 0 (ec_NextS h _ _) rfl ?_; rintro ⟨_, _⟩ _) | exact trivial | contradiction)) <;> (first | (exact ⟨((_, _), _), Lk.t2 (FkA.int rfl) (FkA.bool rfl), rfl⟩) | skip)
  all_goals
    rename_i l hl2 hne x d2 hx
    simp only at hx
    have hpos : 1 ≤ (l.length : Int) := by simp at hne; cases l with
      | nil => simp at hne
      | cons a l => simp; omega
  · exact hx.1
  · exact hx.2.2 hpos
end Go.Proofs.YtfmldmafigpblaaGreatDoor
end
section
namespace Go.Proofs.YtfmldmafigpblaaGreatDoor
open Go.Lift
set_option linter.unusedSimpArgs false
set_option linter.unusedVariables false
set_option maxRecDepth 10000
attribute [local irreducible] EC EV getS putS remS
set_option maxHeartbeats 10000000 in
theorem ec_made_Stepped {L S : Nat} (k : GKernel) (id : Int) (hk : okK L S k) (hL : L ≤ 500000) (hS : S ≤ 500000) : EC Tryz.prog 81 [.agg k.c, .int .u64 id] [] fun r N => N = [] ∧ ∃ x : GKernel, okK (L + 61) (S + 17) x ∧ r = .agg x.c := by
  refine EC.finKP ?_
  (refine nW E_ok call_81 Tryz.func81 Tryz.ntmps81 Tryz.results81 ?_)
  obtain ⟨D, hs, hd⟩ := hk.ex
  have hlo := hk.lo
  have hhi := hk.hi
  have hln := hk.ln
  have h0 : below k.Serial 0 := by show (0 : Int) ≤ k.Serial; omega
  have ho := hs.get (id := id) h0
  have hfr := freshN_rg (getS k.Store id).1
  have hFr := ec_ref19_Fresh (getS k.Store id).1 ho.sm ho.pd
  generalize freshN (getS k.Store id).1 = m at hfr hFr
  obtain ⟨n, rfl⟩ := Int.eq_ofNat_of_zero_le hfr.1
  have hid := idsF_new (s := k.Serial) (n := n) (by omega) (by omega)
  (repeat' (first | (with_reducible intro hh; (first | subst hh | (revert hh; with_reducible intro _))) | with_reducible apply And.intro | refine eK E_ok ?_ | refine EC.use (ec_ref18_Get k.Store id (by omega)) ?_ | refine wA E_ok ?_ | exact trivial | contradiction))
  refine EV_meetW (σ := Bool × RowH × RowH × GStore × GOutcome × Int) [2, 4] (fun s => [(7, .rptr (bif s.1 then 3 else 4) s.2.1 1 0 0), (8, .rptr (bif s.1 then 4 else 3) s.2.2.1 3 0 0), (9, .int .i64 s.2.2.2.2.2)]) (fun B s => B ++ [bif s.1 then .row s.2.1 46 1 [s.2.2.2.1.c] else .row s.2.2.1 164 3 [s.2.2.2.2.1.c], bif s.1 then .row s.2.2.1 164 3 [s.2.2.2.2.1.c] else .row s.2.1 46 1 [s.2.2.2.1.c]]) (fun s => s.2.2.2.2.2 = 0 → stepOk (below k.Serial) D L (idsF k.Serial n) s.2.2.2.1 s.2.2.2.2.1) ?_ ?_
  rotate_left 1
  · (repeat' (first | (with_reducible intro hh; (first | subst hh | (revert hh; with_reducible intro _))) | with_reducible apply And.intro | refine eK E_ok ?_ | refine EC.use (hFr) ?_ | refine EC.use (ec_made_Fresh k n (by omega) (by omega)) ?_ | (refine EC.useP (ec_ref20_Step k.Store id _ h0 hs hln (by omega) hid hd) ?_; rintro ⟨_, _, _⟩ _) | refine dM E_ok 12 [] [0, 1, 2, 3, 4] fol fun R hR => ?_ | refine ed3 E_ok 5 12 13 ?_ ?_ ?_ | refine ed3 E_ok 6 12 13 ?_ ?_ ?_ | refine ed2 E_ok 5 13 ?_ ?_ | refine ed2 E_ok 5 12 ?_ ?_ | refine ed3 E_ok 7 12 13 ?_ ?_ ?_ | refine ed2 E_ok 6 13 ?_ ?_ | refine ed2 E_ok 6 12 ?_ ?_ | refine dR E_ok [5, 6, 7, 8, 9, 10, 11, 14, 15, 16] ?_ | refine dR E_ok [6, 7, 8, 9, 10, 11, 14, 15, 16] ?_ | refine dR E_ok [7, 8, 9, 10, 11, 14, 15, 16] ?_ | refine dR E_ok [8, 9, 10, 11, 14, 15, 16] ?_ | refine dP E_ok 5 [8, 9, 10, 11] ?_ | refine ed2 E_ok 12 13 ?_ ?_ | refine ed2 E_ok 7 13 ?_ ?_ | refine ed2 E_ok 7 12 ?_ ?_ | refine dR E_ok [13, 14, 15, 16] ?_ | refine dR E_ok [12, 14, 15, 16] ?_ | refine dR E_ok [8, 9, 10, 11, 13, 14, 15, 16] ?_ | refine dR E_ok [8, 9, 10, 11, 12, 14, 15, 16] ?_ | (refine hR _ _ ?_; refine sA ?_) | refine wA E_ok ?_ | exact trivial | contradiction)) <;> (first | (refine MT_mk (true, _, _, _, _, _) ?_; assumption) | (refine MT_mk (false, _, _, _, _, _) ?_; assumption) | skip)
  rintro ⟨b, h1, h2, s2, out, e⟩ hok
  replace hok : e = 0 → stepOk (below k.Serial) D L (idsF k.Serial n) s2 out := hok
  simp only [keepS, lkp, push_cast, simprocAttr]
  cases b
  all_goals
    simp only [cond_true, cond_false, push_cast, simprocAttr]
    (repeat' (first | (with_reducible intro hh; (first | subst hh | (revert hh; with_reducible intro _))) | with_reducible apply And.intro | refine eK E_ok ?_ | refine wA E_ok ?_ | exact trivial | contradiction))
  all_goals first
    | exact ⟨k, hk.le (by omega) (by omega), Lt.aggK rfl⟩
    | (have h := hok (by simpa using ‹(e == 0) = true›)
       have hu := h.us
       rw [idsF_len] at hu
       have hw3 : IntKind.i64.wrap (k.Serial + out.Used) = k.Serial + out.Used := i64_in' (by omega)
       obtain ⟨D', hd', hs', hd2⟩ := h.ex
       exact ⟨⟨s2, k.Serial + out.Used⟩, ⟨⟨D', hs'.mono (idsF_take hu), fun x hx => idsF_take hu x (hd2 x hx)⟩, h.ln, by show 2 ≤ k.Serial + out.Used; omega, by show k.Serial + out.Used ≤ ((S + 17 : Nat) : Int); omega⟩, Lt.aggK (by rw [hw3])⟩)
end Go.Proofs.YtfmldmafigpblaaGreatDoor
end
section
namespace Go.Proofs.YtfmldmafigpblaaGreatDoor
open Go.Lift
set_option linter.unusedSimpArgs false
set_option linter.unusedVariables false
set_option maxRecDepth 10000
set_option maxHeartbeats 2000000
attribute [local irreducible] EC EV getS putS remS
abbrev PR := { p : GProgram // p.Code.length ≤ 100 ∧ p.Strings.length ≤ 8 ∧ 0 ≤ p.Pages ∧ p.Pages < 3 }
theorem ec_ProgramT (h : RowH) (d : WD) : EC Tryz.prog 79 [.rptr 0 h 1 0 0] [dRow h d.1] fun r N => ∃ x : PR × WD, True ∧ r = .agg x.1.1.c ∧ N = [dRow h x.2.1] :=
  (NilProg.ec_ProgramS h d).mono fun r N ⟨x, h1, h2, h3⟩ => ⟨(⟨x.1, h1⟩, x.2), trivial, h2, h3⟩
theorem ec_made_StartedT {L S : Nat} (k : GKernel) (p : PR) (hk : okK L S k) (hL : L ≤ 500000) (hS : S ≤ 500000) : EC Tryz.prog 78 [.agg k.c, .agg p.1.c] [] fun r N => N = [] ∧ ∃ x : GKernel, okK (L + 65) (S + 3) x ∧ r = .agg x.c :=
  ec_made_Started k p.1 hk hL hS p.2.1 p.2.2.1 p.2.2.2
theorem Lk.aggK {m : Nat} {B : List Own} {x y : GKernel} (h : x = y) : Lk m B (.agg x.c) (.agg y.c) := by
  subst h
  refine ⟨?_, ?_⟩
  · simp only [frzKT, frzKA]; rw [GKernel.fk]; trivial
  · simp only [frzT, frzA]; rw [GKernel.fz]; exact SLe.refl _
theorem ec_made_Booted (h : RowH) (d : WD) (m : Nat) (hm : m ≤ 10) : EC Tryz.prog 54 [.rptr 0 h 1 0 0, .int .i64 m] [dRow h d.1] fun r N => ∃ x : GKernel × WD, okK 1000 100 x.1 ∧ r = .agg x.1.c ∧ N = [dRow h x.2.1] := by
  refine EC.finKE ?_
  (refine nW E_ok call_54 Tryz.func54 Tryz.ntmps54 Tryz.results54 ?_)
  intro fr0 fr1 fr2
  refine EC.give 3 (LFz.rowM (i := 3) (cells := strC) (d := default) (l := [[47, 100, 101, 118]]) (Nat.le_refl _) rfl rfl rfl (LFz.rowM (i := 4) (cells := intC .u64) (d := default) (l := [2]) (by decide) rfl rfl rfl .nil)) ?_
  simp only [List.take_succ_cons, List.take_zero]
  refine EC.useKP E_ok (ec_ref20_Boot (I := below 2) (D := fun _ => False) [[47, 100, 101, 118]] [2] (by show (0 : Int) ≤ 2; decide) (by show (1 : Int) ≤ 2; decide) (by decide) (by intro p hp; rw [List.mem_singleton.1 hp]; decide) (by decide) (by intro y hy; rw [List.mem_singleton.1 hy]; exact Int.le_refl _)) ?_
  rintro ⟨s0, e0⟩ ⟨hs0, hl0⟩
  simp only at hs0 hl0
  have hk0 : okK 2 2 ⟨s0, 2⟩ := ⟨⟨_, hs0, fun _ hx => hx.elim⟩, by simpa using hl0, Int.le_refl _, by show (2 : Int) ≤ ((2 : Nat) : Int); decide⟩
  simp only [push_cast, simprocAttr]
  refine EV_loopW E_ok [0, 1, 4, 5] (fun x : Nat × GKernel × WD => [(6, .int .i64 x.1)]) (fun B x => updX (updX B 0 [x.2.2.1.c]) 2 [x.2.1.c]) (fun x => x.1 ≤ m ∧ okK (2 + 65 * x.1) (2 + 3 * x.1) x.2.1) (fun x => m - x.1) (0, ⟨s0, 2⟩, d) ⟨Nat.zero_le _, hk0⟩ ?_
  rintro ⟨i, k, d1⟩ ⟨hi, hk⟩
  replace hi : i ≤ m := hi
  replace hk : okK (2 + 65 * i) (2 + 3 * i) k := hk
  have hw : IntKind.i64.wrap ((i : Int) + 1) = ((i + 1 : Nat) : Int) := by rw [i64_in' (by omega)]; omega
  simp only [hw, push_cast, simprocAttr]
  refine ⟨fun hc => ?_, fun hc => ?_⟩
  · have hlt : i < m := by simpa using hc
    (repeat' (first | (with_reducible intro hh; (first | subst hh | (revert hh; with_reducible intro _))) | with_reducible apply And.intro | refine eK E_ok ?_ | (refine aE 0 (ec_ProgramT h _) rfl ?_; rintro ⟨_, _⟩ _) | (refine EC.useP (ec_made_StartedT k _ hk (by omega) (by omega)) ?_; rintro _ _) | refine dJ E_ok 3 [4] [0] [0, 1] fol fun R hR => ?_ | refine ej1 E_ok 2 ?_ | refine ej1 E_ok 3 ?_ | refine dR E_ok [4] ?_ | (refine hR _ _ ?_; refine sA ?_) | refine wA E_ok ?_ | exact trivial | contradiction))
    all_goals
      (try simp only [hw])
      exact NX_mk (i + 1, _, _) ⟨by show i + 1 ≤ m; omega, (‹okK (2 + 65 * i + 65) (2 + 3 * i + 3) _›).le (by show _ ≤ 2 + 65 * (i + 1); omega) (by show _ ≤ 2 + 3 * (i + 1); omega)⟩
  · (repeat' (first | (with_reducible intro hh; (first | subst hh | (revert hh; with_reducible intro _))) | with_reducible apply And.intro | refine eK E_ok ?_ | refine wA E_ok ?_ | exact trivial | contradiction))
    exact ⟨(k, d1), hk.le (by omega) (by omega), Lk.aggK rfl, rfl⟩
theorem ec_made_Run {L S : Nat} (h : RowH) (d : WD) (k : GKernel) (m : Nat) (hm : m ≤ 200) (hk : okK L S k) (hL : L ≤ 300000) (hS : S ≤ 300000) : EC Tryz.prog 55 [.rptr 0 h 1 0 0, .agg k.c, .int .i64 m] [dRow h d.1] fun r N => ∃ x : GKernel × WD, okK (L + 62 * m) (S + 17 * m) x.1 ∧ r = .agg x.1.c ∧ N = [dRow h x.2.1] := by
  refine EC.finKE ?_
  (refine nW E_ok call_55 Tryz.func55 Tryz.ntmps55 Tryz.results55 ?_)
  intro fr0
  refine EV_loopW E_ok [0, 4, 6] (fun x : Nat × GKernel × WD => [(2, .int .i64 ((m : Int) - x.1))]) (fun B x => updX (updX B 0 [x.2.2.1.c]) 1 [x.2.1.c]) (fun x => x.1 ≤ m ∧ okK (L + 62 * x.1) (S + 17 * x.1) x.2.1) (fun x => m - x.1) (0, k, d) ⟨Nat.zero_le _, hk⟩ ?_ (hw := ⟨by simp [lkp], trivial⟩)
  rintro ⟨i, k1, d1⟩ ⟨hi, hk1⟩
  replace hi : i ≤ m := hi
  replace hk1 : okK (L + 62 * i) (S + 17 * i) k1 := hk1
  have hsl := hk1.ln
  have hw : IntKind.i64.wrap ((m : Int) - i - 1) = (m : Int) - ((i + 1 : Nat) : Int) := by rw [i64_in' (by omega)]; omega
  simp only [hw, push_cast, simprocAttr]
  refine ⟨fun hc => ?_, fun hc => ?_⟩
  · have hlt : i < m := by simp at hc; omega
    (repeat' (first | (with_reducible intro hh; (first | subst hh | (revert hh; with_reducible intro _))) | with_reducible apply And.intro | refine eK E_ok ?_ | (refine aE 0 (ec_made_Pick (L := 0) h d1 k1.Store (by omega)) rfl ?_; rintro ⟨_, _⟩ _) | (refine EC.useP (ec_made_Stepped k1 _ hk1 (by omega) (by omega)) ?_; rintro _ _) | (refine aE 0 (ec_NextS h _ _) rfl ?_; rintro ⟨_, _⟩ _) | refine wA E_ok ?_ | exact trivial | contradiction)) <;> (first | (exact ⟨(k1, _), hk1.le (by omega) (by omega), Lk.aggK rfl, rfl⟩) | skip)
    · rename_i pk d2 _ _ k2 hk2 x d3 _ _
      obtain ⟨D, hs2, hd2⟩ := hk2.ex
      have hlo := hk2.lo
      have hhi := hk2.hi
      have hln := hk2.ln
      have h0 : below k2.Serial 0 := by show (0 : Int) ≤ k2.Serial; omega
      refine EV_meetW (σ := RowH × GStore × Int × WD) [0, 2, 4, 6] (fun s => [(9, .rptr 3 s.1 1 0 0), (10, .int .i64 s.2.2.1)]) (fun B s => updX B 0 [s.2.2.2.1.c] ++ [.row s.1 46 1 [s.2.1.c]]) (fun s => s.2.2.1 = 0 → okS (below k2.Serial) D s.2.1 ∧ s.2.1.Objects.length ≤ L + 62 * i + 61 + 1) ?_ ?_
      rotate_left 1
      · (repeat' (first | (with_reducible intro hh; (first | subst hh | (revert hh; with_reducible intro _))) | with_reducible apply And.intro | refine eK E_ok ?_ | (refine aE 0 (ec_NextS h _ _) rfl ?_; rintro ⟨_, _⟩ _) | (refine EC.useP (ec_ref20_Tick k2.Store _ _ h0 hs2 hln (by omega)) ?_; rintro ⟨_, _⟩ _) | refine dJ E_ok 9 [] [0] [0, 1, 2, 3] fol fun R hR => ?_ | refine ej2 E_ok 4 10 ?_ ?_ | refine jP E_ok 7 [5] ?_ | refine ej2 E_ok 6 10 ?_ ?_ | refine ej1 E_ok 4 ?_ | refine jP E_ok 3 [7, 8, 9] ?_ | refine ej1 E_ok 10 ?_ | refine ej1 E_ok 6 ?_ | refine jP E_ok 6 [5] ?_ | refine ej1 E_ok 11 ?_ | refine jP E_ok 2 [7, 8, 9] ?_ | refine dR E_ok [12] ?_ | (refine hR _ _ ?_; refine sA ?_) | refine wA E_ok ?_ | exact trivial | contradiction)) <;> (first | (refine MT_mk (_, _, _, _) ?_; assumption) | skip)
      rintro ⟨h3, s3, e3, d4⟩ hok
      replace hok : e3 = 0 → okS (below k2.Serial) D s3 ∧ s3.Objects.length ≤ L + 62 * i + 61 + 1 := hok
      simp only [keepS, lkp, push_cast, simprocAttr]
      (repeat' (first | (with_reducible intro hh; (first | subst hh | (revert hh; with_reducible intro _))) | with_reducible apply And.intro | refine eK E_ok ?_ | refine wA E_ok ?_ | exact trivial | contradiction))
      · have h := hok (by simpa using ‹(e3 == 0) = true›)
        (try simp only [hw])
        exact NX_mk (i + 1, ⟨s3, k2.Serial⟩, d4) ⟨by show i + 1 ≤ m; omega, ⟨⟨D, h.1, hd2⟩, by show s3.Objects.length ≤ L + 62 * (i + 1); omega, hlo, by show k2.Serial ≤ ((S + 17 * (i + 1) : Nat) : Int); omega⟩⟩
      · (try simp only [hw])
        exact NX_mk (i + 1, k2, d4) ⟨by show i + 1 ≤ m; omega, hk2.le (by show _ ≤ L + 62 * (i + 1); omega) (by show _ ≤ S + 17 * (i + 1); omega)⟩
    · rename_i pk d2 _ _ k2 hk2 x d3 _ _
      (try simp only [hw])
      exact NX_mk (i + 1, k2, d3) ⟨by show i + 1 ≤ m; omega, hk2.le (by show _ ≤ L + 62 * (i + 1); omega) (by show _ ≤ S + 17 * (i + 1); omega)⟩
  · (repeat' (first | (with_reducible intro hh; (first | subst hh | (revert hh; with_reducible intro _))) | with_reducible apply And.intro | refine eK E_ok ?_ | refine wA E_ok ?_ | exact trivial | contradiction))
    exact ⟨(k1, d1), hk1.le (by show _ ≤ L + 62 * m; have := Nat.mul_le_mul_left 62 hi; omega) (by show _ ≤ S + 17 * m; have := Nat.mul_le_mul_left 17 hi; omega), Lk.aggK rfl, rfl⟩
end Go.Proofs.YtfmldmafigpblaaGreatDoor
end
section
namespace Go.Proofs.YtfmldmafigpblaaGreatDoor
open Go.Lift
set_option linter.unusedSimpArgs false
set_option linter.unusedVariables false
set_option maxRecDepth 10000
set_option maxHeartbeats 2000000
section
variable {P : Program}
theorem getD'_at {i : Nat} {o : Own} : ∀ j, getD' (List.replicate i Own.gone ++ [o]) j = if j = i then o else .gone := by
  intro j
  unfold getD'
  simp only [List.getD_eq_getElem?_getD, List.getElem?_append, List.length_replicate]
  by_cases h1 : j < i
  · rw [if_pos h1, if_neg (by omega)]; simp [h1]
  · rw [if_neg h1]
    by_cases h2 : j = i
    · subst h2; simp
    · rw [if_neg h2]
      have : ([o] : List Own)[j - i]? = none := by simp; omega
      rw [this]; rfl
theorem EC.closeI {f : Nat} {args : List SV} {B0 : List Own} {Q : SV → List Own → Prop} (i : Nat)
    (h : EC P f args B0 fun r B' => frzKT (fun j => j != i) B' r ∧ Q (frzT (fun j => j != i) B' r) [getD' B' i]) : EC P f args B0 Q := by
  refine ⟨h.1, fun X w vs hs hd => (h.2 X w vs hs hd).mono ?_⟩
  rintro ex w' ⟨v, r, X', B', he, ⟨hk, hq⟩, h1, h2, h3⟩
  have hb : ∀ j, getD' (List.replicate i Own.gone ++ [getD' B' i]) j = if (fun j => j != i) j then .gone else getD' B' j := fun j => by
    rw [getD'_at]
    by_cases e : j = i
    · subst e; simp
    · simp [e]
  have hs1 := h1.drop_sel hb
  have hbl : ∀ j, (getD' [getD' B' i] j).blocks = if j = 0 then (getD' B' i).blocks else [] := fun j => by
    cases j with
    | zero => rfl
    | succ j => rfl
  have hmem : ∀ {j b}, b ∈ (getD' [getD' B' i] j).blocks → j = 0 ∧ b ∈ (getD' (List.replicate i Own.gone ++ [getD' B' i]) i).blocks := fun {j b} hj => by
    rw [hbl] at hj
    split at hj
    · rename_i e; rw [getD'_at, if_pos rfl]; exact ⟨e, hj⟩
    · cases hj
  have hs2 : Sat (withSel X' B' (fun j => j != i)) w' [getD' B' i] := ⟨fun a b' c h2 h3 => (hmem h2).1.trans (hmem h3).1.symm, fun a b' h2 => hs1.lt _ _ (hmem h2).2, hs1.xg, fun b' hx' ⟨j, hj⟩ => hs1.apart b' hx' ⟨i, (hmem hj).2⟩, fun a => by
    cases a with
    | zero =>
      have := hs1.ok i
      rw [getD'_at, if_pos rfl] at this
      exact this
    | succ a => trivial⟩
  have hx2 : Ext X' w' B' (withSel X' B' (fun j => j != i)) w' [getD' B' i] := by
    have := Ext.drop_sel (X := X') (w := w') hb
    exact ⟨rfl, rfl, rfl, Nat.le_refl _, fun _ _ _ => rfl, this.xin, this.xout, fun b ⟨j, hj⟩ => this.own b ⟨i, (hmem hj).2⟩⟩
  exact ⟨v, _, _, _, he, hq, hs2, frzT_sound h1 h2 hk, h3.trans hx2⟩
end
attribute [local irreducible] EC EV
theorem ec_New_d (l : List Int) (hl : ∀ y ∈ l, 0 ≤ y ∧ y ≤ 255) : ∃ d : WD, EC Tryz.prog 53 [.sl false 1 l.length (elt (intC .u8) default l)] [] fun r N => ∃ h, r = .rptr 0 h 1 0 0 ∧ N = [dRow h d.1] :=
  ⟨⟨{ l := l.take 400 }, by simp; omega, fun y hy => hl y (List.mem_of_mem_take hy)⟩, ec_dice_New l⟩
theorem ec_NextB (h : RowH) (d : WD) (n : Int) : EC Tryz.prog 26 [.rptr 0 h 1 0 0, .int .i64 n] [dRow h d.1] fun r N => ∃ x : { v : Int // 0 ≤ v ∧ (1 ≤ n → v < n) } × WD, True ∧ r = .int .i64 x.1.1 ∧ N = [dRow h x.2.1] :=
  (ec_NextS h d n).mono fun r N ⟨x, h1, h2, h3⟩ => ⟨(⟨x.1, h1.1, h1.2.2⟩, x.2), trivial, h2, h3⟩
theorem ec_made_BootedI (h : RowH) (d : WD) (x : { v : Int // 0 ≤ v ∧ (1 ≤ (3 : Int) → v < 3) }) : EC Tryz.prog 54 [.rptr 0 h 1 0 0, .int .i64 (IntKind.i64.wrap (1 + x.1))] [dRow h d.1] fun r N => ∃ x : { k : GKernel // okK 1000 100 k } × WD, True ∧ r = .agg x.1.1.c ∧ N = [dRow h x.2.1] := by
  obtain ⟨v, h1, h2⟩ := x
  replace h2 := h2 (by decide)
  obtain ⟨n, hn⟩ := Int.eq_ofNat_of_zero_le (show 0 ≤ 1 + v by omega)
  have hw : IntKind.i64.wrap (1 + v) = (n : Int) := by rw [i64_in' (by omega)]; exact hn
  simp only [hw]
  exact (ec_made_Booted h d n (by omega)).mono fun r N ⟨x, h1, h2, h3⟩ => ⟨(⟨x.1, h1⟩, x.2), trivial, h2, h3⟩
theorem ec_made_RunI (h : RowH) (d : WD) (k : { k : GKernel // okK 1000 100 k }) (x : { v : Int // 0 ≤ v ∧ (1 ≤ (100 : Int) → v < 100) }) : EC Tryz.prog 55 [.rptr 0 h 1 0 0, .agg k.1.c, .int .i64 (IntKind.i64.wrap (20 + x.1))] [dRow h d.1] fun r N => ∃ x : { k : GKernel // okK 20000 20000 k } × WD, True ∧ r = .agg x.1.1.c ∧ N = [dRow h x.2.1] := by
  obtain ⟨v, h1, h2⟩ := x
  replace h2 := h2 (by decide)
  obtain ⟨n, hn⟩ := Int.eq_ofNat_of_zero_le (show 0 ≤ 20 + v by omega)
  have hw : IntKind.i64.wrap (20 + v) = (n : Int) := by rw [i64_in' (by omega)]; exact hn
  simp only [hw]
  exact (ec_made_Run h d k.1 n (by omega) k.2 (by decide) (by decide)).mono fun r N ⟨x, h1, h2, h3⟩ => ⟨(⟨x.1, h1.le (by omega) (by omega)⟩, x.2), trivial, h2, h3⟩
theorem clK {x : GKernel} {B : List Own} {h : RowH} : frzKT (fun j => j != 1) B (SV.tup [SV.agg x.c, SV.rptr 1 h 1 0 0]) ∧ SLe (frzT (fun j => j != 1) B (SV.tup [SV.agg x.c, SV.rptr 1 h 1 0 0])) (.tup [.agg x.c, .rptr 0 h 1 0 0]) := by
  refine ⟨⟨?_, by simp [frzKA, frzKC], trivial⟩, ?_⟩
  · show frzKL _ _ _
    rw [GKernel.fk]; trivial
  · refine SLe.tup (.cons ?_ (.cons ?_ .nil))
    · simp only [frzA]; rw [GKernel.fz]; exact SLe.refl _
    · simp only [frzA, frzC]; exact SLe.rptr
theorem ec_made_Made (l : List Int) (hl : ∀ y ∈ l, 0 ≤ y ∧ y ≤ 255) : EC Tryz.prog 25 [slL 1 (intC .u8) default l] [] fun r N => ∃ s : RowH × GKernel × WD, okK 20000 20000 s.2.1 ∧ r = .tup [.agg s.2.1.c, .rptr 0 s.1 1 0 0] ∧ N = [dRow s.1 s.2.2.1] := by
  obtain ⟨d, hN⟩ := ec_New_d l hl
  have key : EC Tryz.prog 25 [slL 1 (intC .u8) default l] [] fun r N => ∃ s : RowH × GKernel × WD, okK 20000 20000 s.2.1 ∧ SLe r (.tup [.agg s.2.1.c, .rptr 0 s.1 1 0 0]) ∧ N = [dRow s.1 s.2.2.1] := by
    refine EC.closeI 1 ?_
    (refine nW E_ok call_25 Tryz.func25 Tryz.ntmps25 Tryz.results25 ?_)
    intro fr0
    refine EC.useM (R := fun h i => .rptr i h 1 0 0) hN (fun _ _ _ => SLe.rptr) ?_
    intro h
    refine EOK_run (m := 0) E_ok ?_
    simp only [push_cast, simprocAttr]
    (repeat' (first | (with_reducible intro hh; (first | subst hh | (revert hh; with_reducible intro _))) | with_reducible apply And.intro | refine eK E_ok ?_ | (refine aE 1 (ec_NextB h _ _) rfl ?_; rintro ⟨_, _⟩ _) | (refine aE 1 (ec_made_BootedI h _ _) rfl ?_; rintro ⟨_, _⟩ _) | (refine aE 1 (ec_made_RunI h _ _ _) rfl ?_; rintro ⟨_, _⟩ _) | refine dN E_ok [] [0, 1] [0, 1, 2, 6, 3, 4, 5, 7, 8] fol fun R hR => ?_ | refine dR E_ok [4, 5, 7, 8] ?_ | refine dR E_ok [7, 8] ?_ | (refine hR _ _ ?_; refine sA ?_) | refine wA E_ok ?_ | exact trivial | contradiction))
    · exact clK.1
    · exact ⟨(h, _, _), Subtype.property _, clK.2, rfl⟩
  exact EC.ret (key.mono fun r N ⟨s, h1, h2, h3⟩ => ⟨_, h2, s, h1, rfl, h3⟩)
end Go.Proofs.YtfmldmafigpblaaGreatDoor
end
section
namespace Go.Proofs.YtfmldmafigpblaaGreatDoor
open Go.Lift
set_option linter.unusedSimpArgs false
set_option linter.unusedVariables false
set_option maxRecDepth 10000
set_option maxHeartbeats 4000000
attribute [local irreducible] EC EV
theorem clO {o : GObject} {x : GKernel} {B : List Own} {h : RowH} : frzKT (fun j => j != 2) B (SV.tup [SV.agg o.c, SV.agg x.c, SV.rptr 2 h 1 0 0]) ∧ SLe (frzT (fun j => j != 2) B (SV.tup [SV.agg o.c, SV.agg x.c, SV.rptr 2 h 1 0 0])) (.tup [.agg o.c, .agg x.c, .rptr 0 h 1 0 0]) := by
  refine ⟨⟨?_, ?_, by simp [frzKA, frzKC], trivial⟩, ?_⟩
  · show frzKL _ _ _
    rw [GObject.fk]; trivial
  · show frzKL _ _ _
    rw [GKernel.fk]; trivial
  · refine SLe.tup (.cons ?_ (.cons ?_ (.cons ?_ .nil)))
    · simp only [frzA]; rw [GObject.fz]; exact SLe.refl _
    · simp only [frzA]; rw [GKernel.fz]; exact SLe.refl _
    · simp only [frzA, frzC]; exact SLe.rptr
theorem getD_sub (m : List GObject) (x : { i : Nat // i < m.length }) : (List.map GObject.c m).getD x.1 [] = (m.getD x.1 default).c := by
  simp [List.getD, x.2]
theorem sub_lt (m : List GObject) (x : { i : Nat // i < m.length }) : (x.1 < m.length) = True := by simp [x.2]
theorem sub_ltI (m : List GObject) (x : { i : Nat // i < m.length }) : ((x.1 : Int) < (m.length : Int)) = True := by simp [x.2]
theorem sub_ge (m : List GObject) (x : { i : Nat // i < m.length }) : (0 ≤ (x.1 : Int)) = True := by simp
attribute [push_cast] getD_sub sub_lt sub_ltI sub_ge
theorem ec_NextF (h : RowH) (d : WD) (m : List GObject) (hm : 1 ≤ m.length) : EC Tryz.prog 26 [.rptr 0 h 1 0 0, .int .i64 (m.length : Int)] [dRow h d.1] fun r N => ∃ x : { i : Nat // i < m.length } × WD, True ∧ r = .int .i64 (x.1.1 : Int) ∧ N = [dRow h x.2.1] :=
  (ec_NextS h d m.length).mono fun r N ⟨x, h1, h2, h3⟩ => by
    obtain ⟨n, hn⟩ := Int.eq_ofNat_of_zero_le h1.1
    have := h1.2.2 (by omega)
    exact ⟨(⟨n, by omega⟩, x.2), trivial, h2.trans (congrArg (SV.int .i64) hn), h3⟩
structure md16 (o : GObject) (k : GKernel) : Prop where
  kn : okK 20000 20000 k
  pr : o = default ∨ o ∈ k.Store.Objects ∧ o.Kind = 1
theorem ec_made16 (l : List Int) (hl : ∀ y ∈ l, 0 ≤ y ∧ y ≤ 255) : EC Tryz.prog 8 [slL 1 (intC .u8) default l] [] fun r N => ∃ s : RowH × GObject × GKernel × WD, md16 s.2.1 s.2.2.1 ∧ r = .tup [.agg s.2.1.c, .agg s.2.2.1.c, .rptr 0 s.1 1 0 0] ∧ N = [dRow s.1 s.2.2.2.1] := by
  have key : EC Tryz.prog 8 [slL 1 (intC .u8) default l] [] fun r N => ∃ s : RowH × GObject × GKernel × WD, md16 s.2.1 s.2.2.1 ∧ SLe r (.tup [.agg s.2.1.c, .agg s.2.2.1.c, .rptr 0 s.1 1 0 0]) ∧ N = [dRow s.1 s.2.2.2.1] := by
    refine EC.closeI 2 ?_
    (refine nW E_ok call_8 Tryz.func8 Tryz.ntmps8 Tryz.results8 ?_)
    intro fr0
    refine EC.useN (σ := RowH × GKernel × WD) (R := fun s i => .tup [.agg s.2.1.c, .rptr i s.1 1 0 0]) (N := fun s => [dRow s.1 s.2.2.1]) (ec_made_Made l hl) (fun _ _ => SLe.tup (.cons (SLe.refl _) (.cons SLe.rptr .nil))) ?_
    rintro ⟨h, k, d⟩ hk
    simp only at hk
    have hln := hk.ln
    refine EOK_run (m := 0) E_ok ?_
    simp only [push_cast, simprocAttr]
    intro fr1
    refine EV_matr 7 41 36 rfl ?_
    intro h4
    refine EV_loopW E_ok [2, 3, 4, 5, 6, 17, 18] (fun x : Nat × List GObject × RowH => [(19, .int .i64 x.1), (7, .row 4 x.2.2 36 0 x.2.1.length)]) (fun B x => updH B 4 x.2.2 (x.2.1.map GObject.c)) (fun x => x.1 ≤ k.Store.Objects.length ∧ x.2.1.length ≤ x.1 ∧ ∀ o ∈ x.2.1, o ∈ k.Store.Objects ∧ o.Kind = 1) (fun x => k.Store.Objects.length - x.1) (0, [], h4) ⟨Nat.zero_le _, Nat.le_refl _, by simp⟩ ?_
    rintro ⟨i, m, hr⟩ ⟨hi, hm, hmem⟩
    replace hi : i ≤ k.Store.Objects.length := hi
    replace hm : m.length ≤ i := hm
    replace hmem : ∀ o ∈ m, o ∈ k.Store.Objects ∧ o.Kind = 1 := hmem
    have hw : IntKind.i64.wrap ((i : Int) + 1) = ((i + 1 : Nat) : Int) := by rw [i64_in' (by omega)]; omega
    simp only [hw, push_cast, simprocAttr]
    refine ⟨fun hc => ?_, fun hc => ?_⟩
    · have hlt : i < k.Store.Objects.length := by omega
      (repeat' (first | (with_reducible intro hh; (first | subst hh | (revert hh; with_reducible intro _))) | with_reducible apply And.intro | refine eK E_ok ?_ | refine wA E_ok ?_ | exact trivial | contradiction)) <;> (first | omega | skip)
      · rename_i f1 hkk f2
        (try simp only [hw])
        refine NX_mk (i + 1, m ++ [k.Store.Objects.getD i default], f2 3) ⟨by show i + 1 ≤ _; omega, by show (m ++ [_]).length ≤ i + 1; simp; omega, fun o ho => ?_⟩
        rcases List.mem_append.1 ho with ho | ho
        · exact hmem o ho
        · rw [List.mem_singleton.1 ho]; exact ⟨getD_mem hlt, by simpa using hkk⟩
      · (try simp only [hw])
        exact NX_mk (i + 1, m, hr) ⟨by show i + 1 ≤ _; omega, by show m.length ≤ i + 1; omega, hmem⟩
    · by_cases hm0 : 1 ≤ m.length
      · (repeat' (first | (with_reducible intro hh; (first | subst hh | (revert hh; with_reducible intro _))) | with_reducible apply And.intro | refine eK E_ok ?_ | (refine aE 2 (ec_NextF h _ m hm0) rfl ?_; rintro ⟨_, _⟩ _) | refine dN E_ok [] [0, 1] [0, 1, 2, 3, 4, 5] fol fun R hR => ?_ | refine dN E_ok [] [0, 1, 2] [0, 1, 2, 3, 7, 8, 4, 5, 6, 9, 10, 11] fol fun R hR => ?_ | refine dR E_ok [5, 6, 9, 10, 11] ?_ | (refine hR _ _ ?_; refine sA ?_) | refine wA E_ok ?_ | exact trivial | contradiction))
        all_goals first
          | exact clO.1
          | exact ⟨(h, default, k, d), ⟨hk, .inl rfl⟩, clO.2, rfl⟩
          | (rename_i x d2 _; exact ⟨(h, m.getD x.1 default, k, d2), ⟨hk, .inr (hmem _ (getD_mem x.2))⟩, clO.2, rfl⟩)
      · have hm1 : m = [] := List.length_eq_zero_iff.1 (by omega)
        subst hm1
        (repeat' (first | (with_reducible intro hh; (first | subst hh | (revert hh; with_reducible intro _))) | with_reducible apply And.intro | refine eK E_ok ?_ | refine dN E_ok [] [0, 1] [0, 1, 2, 3, 4, 5] fol fun R hR => ?_ | (refine hR _ _ ?_; refine sA ?_) | refine wA E_ok ?_ | exact trivial | contradiction))
        all_goals first
          | exact clO.1
          | exact ⟨(h, default, k, d), ⟨hk, .inl rfl⟩, clO.2, rfl⟩
  exact EC.ret (key.mono fun r N ⟨s, h1, h2, h3⟩ => ⟨_, h2, s, h1, rfl, h3⟩)
end Go.Proofs.YtfmldmafigpblaaGreatDoor
end
section
namespace Go.Proofs.YtfmldmafigpblaaGreatDoor
open Go.Lift
set_option linter.unusedVariables false
def pO (ks : List Int) : GObject := { (default : GObject) with ID := 3, Kind := 1, Process := { (default : GProcess) with State := 1, Children := ks } }
def cO (id : Int) : GObject := { (default : GObject) with ID := id, Kind := 1, Process := { (default : GProcess) with State := 1, Parent := 3 } }
def zO (id st : Int) : GObject := { (default : GObject) with ID := id, Kind := 1, Process := { (default : GProcess) with State := 3, Parent := 3, Status := st } }
theorem small_pO {ks : List Int} (h : ks.length ≤ 1000000) : smallO (pO ks) := ⟨⟨h, Nat.zero_le _, Nat.zero_le _, Nat.zero_le _, Nat.zero_le _⟩, Nat.zero_le _, Nat.zero_le _, Nat.zero_le _, Nat.zero_le _, Nat.zero_le _, Nat.zero_le _, by intro n hn; cases hn⟩
theorem small_cO (id : Int) : smallO (cO id) := ⟨⟨Nat.zero_le _, Nat.zero_le _, Nat.zero_le _, Nat.zero_le _, Nat.zero_le _⟩, Nat.zero_le _, Nat.zero_le _, Nat.zero_le _, Nat.zero_le _, Nat.zero_le _, Nat.zero_le _, by intro n hn; cases hn⟩
theorem small_zO (id st : Int) : smallO (zO id st) := ⟨⟨Nat.zero_le _, Nat.zero_le _, Nat.zero_le _, Nat.zero_le _, Nat.zero_le _⟩, Nat.zero_le _, Nat.zero_le _, Nat.zero_le _, Nat.zero_le _, Nat.zero_le _, Nat.zero_le _, by intro n hn; cases hn⟩
theorem new_pO : newO0 3 default = (pO [], 0) := by decide
structure Kids (ks : List Int) : Prop where
  nodup : ks.Nodup
  le : ks.length ≤ 32
  pos : ∀ k ∈ ks, 10 ≤ k ∧ k < 42
theorem Kids.nil : Kids [] := ⟨List.nodup_nil, Nat.zero_le _, by simp⟩
end Go.Proofs.YtfmldmafigpblaaGreatDoor
end
section
namespace Go.Proofs.YtfmldmafigpblaaGreatDoor
open Go.Lift
set_option linter.unusedSimpArgs false
set_option linter.unusedVariables false
set_option maxRecDepth 10000
theorem ec_New3 : EC Tryz.prog 13 [.int .u64 3, .agg (default : GProgram).c, .sl true 0 0 fun _ => []] [] fun r N => N = [] ∧ r = .tup [.agg (pO []).c, .int .i64 0] := by
  have := ec_New0 3 default (Nat.zero_le _) (Nat.zero_le _)
  rwa [new_pO] at this
theorem ec_Fork0 (o : GObject) (id : Int) (ho : smallO o) : EC Tryz.prog 17 [.agg o.c, .int .u64 id, .sl true 0 0 fun _ => []] [] fun r N => N = [] ∧ r = r3k (forkO o id []) :=
  EC.args (.cons (.refl _) (.cons (.refl _) (.cons (SLe.sl (fun h => by simp at h) (.inl rfl) fun k hk => absurd hk (Nat.not_lt_zero k)) .nil))) (ec_Fork o id [] ho (Nat.zero_le _))
theorem f4 : forkO (pO []) 4 [] = (pO [4], cO 4, 0) := by decide +kernel
theorem e3 : endO (pO []) 5 = (default, true, 0) := by decide +kernel
theorem e4 : endO (cO 4) 5 = (zO 4 5, false, 0) := by decide +kernel
theorem r4 : reapO (pO [4]) (zO 4 5) = (pO [], 5, 0) := by decide +kernel
theorem v4 : prB (pO [4]) = true := by decide +kernel
theorem w4 : prB (zO 4 5) = true := by decide +kernel
theorem ec_sane : EC Tryz.prog 6 [] [] fun r N => N = [] ∧ r = .bool true := by
  refine EC.finK ?_
  (refine nK E_ok call_6 Tryz.func6 Tryz.ntmps6 Tryz.results6 ?_)
  (refine EC.use (ec_New3) ?_; refine eK E_ok ?_)
  intro fr
  have hE := ec_End (pO []) 5 (small_pO (Nat.zero_le _))
  rw [e3] at hE
  (refine EC.use (hE) ?_; refine eK E_ok ?_)
  intro fr1
  have hF := ec_Fork0 (pO []) 4 (small_pO (Nat.zero_le _))
  rw [f4] at hF
  (refine EC.use (hF) ?_; refine eK E_ok ?_)
  intro fr2
  have hE4 := ec_End (cO 4) 5 (small_cO _)
  rw [e4] at hE4
  (refine EC.use (hE4) ?_; refine eK E_ok ?_)
  intro fr3
  have hR := ec_Reap (pO [4]) (zO 4 5) (small_pO (by simp)) (small_zO _ _)
  rw [r4] at hR
  (refine EC.use (hR) ?_; refine eK E_ok ?_)
  intro fr4
  refine ⟨fun _ => ?_, fun h => absurd h (by decide)⟩
  have hV := ec_pr_Valid (pO [4]) (small_pO (by simp))
  rw [v4] at hV
  (refine EC.use (hV) ?_; refine eK E_ok ?_)
  refine ⟨fun _ => ?_, fun h => absurd h (by decide)⟩
  have hW := ec_pr_Valid (zO 4 5) (small_zO _ _)
  rw [w4] at hW
  (refine EC.use (hW) ?_; refine eK E_ok ?_)
  exact Lt.bool rfl
end Go.Proofs.YtfmldmafigpblaaGreatDoor
end
section
namespace Go.Proofs.YtfmldmafigpblaaGreatDoor
set_option linter.unusedSimpArgs false
set_option linter.unusedVariables false
open Go.Lift Go.ChangeShapes Go.WideShapes Go.ChangeAt Go.RowKit
theorem gForms : Tryz.prog.globalNamed "clusterkernel/code.forms" = some 0 := by kernel_rfl
theorem gFormsType : (Tryz.prog.globals[0]?).map (·.type) = some 144 := by kernel_rfl
theorem cells95 : Tryz.prog.cellsOf 143 = 2 := by kernel_rfl
theorem cells9 : Tryz.prog.cellsOf 9 = 1 := by kernel_rfl
theorem str_cell {H : Type} {enc : TypeId × Value → H} {P : Program} {w : World} {base : Nat} {sp : Nat → Bool} {held : Bool} {fuel : Nat} {t : TypeId} {cs : List Value} {l : List UInt8} {p : List MemPlace}
    (ht : P.underlying t = some .string) (h : DataW.trod enc P w base sp held fuel t cs = some (.lit (.string l), p)) : cs = [.string ⟨l.toArray⟩] := by
  cases fuel with
  | zero => simp [DataW.trod] at h
  | succ fuel =>
    simp only [DataW.trod, ht] at h
    split at h <;> simp_all
    obtain ⟨_, h⟩ := h
    rw [← h.1]
theorem laid_eq {H : Type} : (Rows.laid_clusterkernel_code_forms : DataW H) = .agg ((List.range 13).map fun i : Nat => .agg [.lit (.string (nmOf i)), .lit (.string (opnd i))]) := rfl
theorem gv_len : (GV 0).length = 26 := rfl
theorem gv_even {i : Nat} (h : i < 13) : (GV 0)[i * 2]? = some (.str (nmOf i)) := by
  match i, h with
  | 0, _ | 1, _ | 2, _ | 3, _ | 4, _ | 5, _ | 6, _ | 7, _ | 8, _ | 9, _ | 10, _ | 11, _ | 12, _ => rfl
theorem gv_odd {i : Nat} (h : i < 13) : (GV 0)[i * 2 + 1]? = some (.str (opnd i)) := by
  match i, h with
  | 0, _ | 1, _ | 2, _ | 3, _ | 4, _ | 5, _ | 6, _ | 7, _ | 8, _ | 9, _ | 10, _ | 11, _ | 12, _ => rfl
theorem form_cells {H : Type} {enc : TypeId × Value → H} {w : World} {base : Nat} {sp : Nat → Bool} {held : Bool} {fuel : Nat} {cs : List Value} {p : List MemPlace}
    (h : DataW.trod enc Tryz.prog w base sp held fuel 144 cs = some (Rows.laid_clusterkernel_code_forms, p)) {i : Nat} (hi : i < 13) :
    cs[i * 2]? = some (.string ⟨(nmOf i).toArray⟩) ∧ cs[i * 2 + 1]? = some (.string ⟨(opnd i).toArray⟩) := by
  obtain ⟨xs, m, -, hx, hl, hxl, hat⟩ := DataW.trod_array Tryz.underlying144 h
  have h1 := congrArg Prod.fst hx
  simp only [laid_eq, DataW.agg.injEq] at h1
  have h2 : (xs.map (·.1))[i]? = some (.agg [.lit (.string (nmOf i)), .lit (.string (opnd i))]) := by rw [← h1]; simp [hi]
  obtain ⟨x, hx1, hx2⟩ : ∃ x, xs[i]? = some x ∧ x.1 = .agg [.lit (.string (nmOf i)), .lit (.string (opnd i))] := by simpa [List.getElem?_map, Option.map_eq_some_iff] using h2
  have h3 := hat i hi
  rw [hx1, cells95] at h3
  obtain ⟨ys, m2, -, hy, hl2, hyl, hat2⟩ := DataW.trod_struct Tryz.underlying143 h3
  have h4 : x.1 = .agg (ys.map (·.1)) := congrArg Prod.fst hy
  rw [hx2, DataW.agg.injEq] at h4
  match ys, h4 with
  | [y0, y1], h4 =>
    simp only [List.map_cons, List.map_nil, List.cons.injEq, and_true] at h4
    have a0 := hat2 0 _ rfl
    have a1 := hat2 1 _ rfl
    simp only [cells9, List.getElem?_cons_zero, List.getElem?_cons_succ, List.drop_zero] at a0 a1
    have b0 := str_cell Tryz.underlying9 (a0.trans (congrArg some (Prod.ext h4.1.symm rfl : y0 = (_, y0.2))))
    have b1 := str_cell Tryz.underlying9 (a1.trans (congrArg some (Prod.ext h4.2.symm rfl : y1 = (_, y1.2))))
    constructor
    · have := congrArg (fun l : List Value => l[0]?) b0
      simp [List.getElem?_take, List.getElem?_drop] at this
      exact this.2
    · have := congrArg (fun l : List Value => l[0]?) b1
      simp [List.getElem?_take, List.getElem?_drop] at this
      exact this.2
theorem forms_den {W : World} (h : laidMetH Tryz.prog [("clusterkernel/code.forms", Rows.laid_clusterkernel_code_forms)] W) (hs : 0 < W.heap.size) (g : Nat) (hg : GV g ≠ []) : Den (old W) W (.xp (GV g)) (.pointer (some ⟨g, 0, none⟩)) := by
  obtain rfl : g = 0 := by
    cases g with
    | zero => rfl
    | succ g => exact absurd rfl hg
  obtain ⟨ps, ⟨g', t', cs, fuel, p, q, hg', ht', hvar, hd, _, _⟩, _⟩ : laidMet Tryz.prog [("clusterkernel/code.forms", Rows.laid_clusterkernel_code_forms)] W := h
  obtain rfl := Option.some.inj (gForms.symm.trans hg')
  obtain rfl := Option.some.inj (gFormsType.symm.trans ht')
  have hc : ∀ j, j < 26 → ∃ v, cs.toList[j]? = some v ∧ ∃ l, (GV 0)[j]? = some (.str l) ∧ v = .string ⟨l.toArray⟩ := by
    intro j hj
    rcases Nat.mod_two_eq_zero_or_one j with h2 | h2
    · obtain ⟨i, rfl⟩ : ∃ i, j = i * 2 := ⟨j / 2, by omega⟩
      exact ⟨_, (form_cells hd (by omega)).1, _, gv_even (by omega), rfl⟩
    · obtain ⟨i, rfl⟩ : ∃ i, j = i * 2 + 1 := ⟨j / 2, by omega⟩
      exact ⟨_, (form_cells hd (by omega)).2, _, gv_odd (by omega), rfl⟩
  refine .xp (fun j => cs.getD j undef) hs (fun j hj => ?_) fun j c hj => ?_
  · obtain ⟨v, h1, _⟩ := hc j (by rw [gv_len] at hj; exact hj)
    have h1' : cs[j]? = some v := by simpa using h1
    rw [Nat.zero_add]
    have := World.var?_cell gForms hvar j
    rw [this, h1']
    simp [Array.getD_eq_getD_getElem?, h1']
  · have hj' : j < 26 := by
      have := (List.getElem?_eq_some_iff.1 hj).1
      rwa [gv_len] at this
    obtain ⟨v, h1, l, h2, rfl⟩ := hc j hj'
    rw [h2] at hj
    obtain rfl := Option.some.inj hj
    have h1' : cs[j]? = some (.string ⟨l.toArray⟩) := by simpa using h1
    have : cs.getD j undef = .string ⟨l.toArray⟩ := by simp [Array.getD_eq_getD_getElem?, h1']
    rw [this]
    exact .str l
theorem heap_pos {W : World} (h : laidMetH Tryz.prog [("clusterkernel/code.forms", Rows.laid_clusterkernel_code_forms)] W) : 0 < W.heap.size := by
  obtain ⟨ps, ⟨g', t', cs, fuel, p, q, hg', ht', hvar, hd, _, _⟩, _⟩ : laidMet Tryz.prog [("clusterkernel/code.forms", Rows.laid_clusterkernel_code_forms)] W := h
  obtain rfl := Option.some.inj (gForms.symm.trans hg')
  obtain rfl := Option.some.inj (gFormsType.symm.trans ht')
  have h1 := World.var?_cell gForms hvar 0
  have h2 := (form_cells hd (i := 0) (by decide)).1
  have h3 : cs[0]? = some (.string ⟨(nmOf ((0 : Nat) : Int)).toArray⟩) := by simpa using h2
  rw [h3] at h1
  by_cases hp : 0 < W.heap.size
  · exact hp
  · exfalso
    have hz : W.heap[0]? = none := Array.getElem?_eq_none (by omega)
    simp [World.cell?, hz] at h1
noncomputable def cardWorld (os : Os) : World :=
  { World.holding Tryz.prog os ⟨#[], #[], []⟩ with heap := (World.holding Tryz.prog os ⟨#[], #[], []⟩).heap.modify 0 fun
      | .cells _ t frozen => .cells ((List.range 13).flatMap fun i : Nat => [Value.string ⟨(nmOf i).toArray⟩, Value.string ⟨(opnd i).toArray⟩]).toArray t frozen
      | o => o }
end Go.Proofs.YtfmldmafigpblaaGreatDoor
end
