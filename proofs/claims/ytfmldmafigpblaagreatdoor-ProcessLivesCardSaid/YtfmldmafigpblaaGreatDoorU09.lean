/- Part 9: KerE, KerP, KerF, KerL, KerG, KerH, KerI0, KerI, KerJ. -/
import Derived.Test.YtfmldmafigpblaaGreatDoorU04
import Derived.Test.YtfmldmafigpblaaGreatDoorU05
import Derived.Test.YtfmldmafigpblaaGreatDoorU06
import Derived.Test.YtfmldmafigpblaaGreatDoorU07
import Derived.Test.YtfmldmafigpblaaGreatDoorU08
section
namespace Go.Proofs.YtfmldmafigpblaaGreatDoor
open Go.Lift
set_option linter.unusedSimpArgs false
set_option linter.unusedVariables false
set_option maxRecDepth 10000
theorem entX_no : ∀ {es : List MapEntry} {xs : List (List SV)} {k j : Nat} {cs : List SV} {f : Nat → List SV}, entX es xs → xs[k]? = some cs → cs[j]? = some (.sl true 0 0 f) → False
  | [], [], _, _, _, _, _, hx, _ => by simp at hx
  | e :: es, x :: xs, 0, j, cs, f, h, hx, hj => by
    obtain ⟨⟨k1, k2, a, v, _, _, rfl⟩, _⟩ := h
    simp only [List.getElem?_cons_zero, Option.some.injEq] at hx
    subst hx
    match j, hj with
    | 0, hj => simp at hj
    | 1, hj => simp at hj
    | j + 2, hj => simp at hj
  | e :: es, x :: xs, k + 1, j, cs, f, h, hx, hj => entX_no h.2 (by simpa using hx) hj
  | [], _ :: _, _, _, _, _, h, _, _ => h.elim
  | _ :: _, [], _, _, _, _, h, _, _ => h.elim
theorem EV_matrC {P : Program} {n : Nat} {c : Code} {t : Slots} {B : List Own} {Q : Post} (i k j E e : Nat) {h0 : RowH} {E0 e0 : Nat} {xs : List (List SV)} {cs : List SV} {f : Nat → List SV}
    (hi : i < B.length) (hB : getD' B i = .row h0 E0 e0 xs) (hx : xs[k]? = some cs) (hj : cs[j]? = some (.sl true 0 0 f))
    (h : ∀ h, EV P n c t (B.set i (.row h0 E0 e0 (xs.set k (cs.set j (.row B.length h e 0 0)))) ++ [.row h E e []]) Q) : EV P n c t B Q := by
  intro X0 w0 B0 X w a he hs
  have hok := hs.sat.ok i
  rw [hB] at hok
  have hk : k < xs.length := (List.getElem?_eq_some_iff.1 hx).1
  have hjl : j < cs.length := (List.getElem?_eq_some_iff.1 hj).1
  cases h0 with
  | void a0 => simp only [Own.ok] at hok; subst hok; simp at hk
  | mp b => obtain ⟨_, _, _, hen⟩ := hok; exact (entX_no hen hx hj).elim
  | «at» b cap =>
    obtain ⟨vs, k1, k2, k3, k4, k5⟩ := hok
    have hd := k5 k j cs _ hx hj
    obtain ⟨ad, hv⟩ : ∃ ad, vs.getD (k * e0 + j) undef = .slice ad 0 0 := by
      generalize vs.getD (k * e0 + j) undef = v at hd
      cases hd with
      | slNil hf => rw [hf rfl]; exact ⟨_, rfl⟩
      | slAt g hn => exact absurd hn (Nat.lt_irrefl 0)
    let r := Own.row (.at b cap) E0 e0 (xs.set k (cs.set j (.row B.length (.void ad) e 0 0)))
    have hr : Own.ok X w r := by
      refine ⟨vs, k1, k2, by simpa using k3, fun k' x hx' => ?_, fun k' j' x c hx' hc' => ?_⟩
      · rw [List.getElem?_set] at hx'
        split at hx'
        · simp only [Option.some.injEq] at hx'; subst hx'; rw [List.length_set]; exact k4 k cs hx
        · exact k4 k' x hx'
      · rw [List.getElem?_set] at hx'
        split at hx'
        · rename_i hkk
          subst hkk
          simp only [Option.some.injEq] at hx'
          subst hx'
          rw [List.getElem?_set] at hc'
          split at hc'
          · rename_i hjj
            subst hjj
            simp only [Option.some.injEq] at hc'; subst hc'; rw [hv]; exact .rowVoid ..
          · exact k5 k j' cs c hx hc'
        · exact k5 k' j' x c hx' hc'
    have hget : ∀ i', getD' (B.set i r) i' = if i' = i then r else getD' B i' := fun i' => getD'_setZ hi
    have hbl : ∀ i', (getD' (B.set i r) i').blocks = (getD' B i').blocks := fun i' => by
      rw [hget]; split
      · rename_i e; subst e; rw [hB]; rfl
      · rfl
    have hown : ∀ b, owns (B.set i r) b ↔ owns B b := fun b => ⟨fun ⟨i', h'⟩ => ⟨i', by rwa [hbl] at h'⟩, fun ⟨i', h'⟩ => ⟨i', by rwa [hbl]⟩⟩
    have h1 : Sat X w (B.set i r) := ⟨fun a b' c h2 h3 => hs.sat.inj a b' c (by rwa [hbl] at h2) (by rwa [hbl] at h3), fun a b' h2 => hs.sat.lt a b' (by rwa [hbl] at h2), hs.sat.xg, fun b' hx' ho => hs.sat.apart b' hx' ((hown b').1 ho), fun a => by
      rw [hget]; split
      · exact hr
      · exact hs.sat.ok a⟩
    have h2 : Sat X w (B.set i r ++ [.row (.void ad) E e []]) := h1.push (Nat.le_refl _) (fun _ _ => rfl) (fun c hc => by simp [Own.blocks] at hc) rfl
    have h3 : Ext X w B X w (B.set i r) := ⟨rfl, rfl, rfl, Nat.le_refl _, fun _ _ _ => rfl, fun _ h => h, fun _ h => .inl h, fun b' hb => .inl ((hown b').1 hb)⟩
    have h4 : Ext X w (B.set i r) X w (B.set i r ++ [.row (.void ad) E e []]) := Ext.push rfl rfl rfl (Nat.le_refl _) (fun _ _ => rfl) fun c hc => by simp [Own.blocks] at hc
    exact h (.void ad) X0 w0 B0 X w a ((he.trans h3).trans h4) ⟨hs.defers, h2, hs.den⟩
attribute [local irreducible] EC EV
def zrP : List SV := putL (GProcess.c default) 15 [.sl true 0 0 fun _ => []]
def E3 : Env := { E with zr := fun T => if T = 34 then zrP else E.zr T }
theorem E3_ok : EnvOK Tryz.prog E3 := ⟨E_ok.ty, fun T h => by
  simp only [E3] at h ⊢
  split
  · rename_i e; subst e; kernel_rfl
  · rename_i e; simp only [e, if_false] at h; exact E_ok.zr T h, E_ok.lv⟩
theorem E3_ty (T : Nat) : E3.ty T = E.ty T := rfl
theorem E3_lv (T : Nat) : E3.lv T = E.lv T := rfl
theorem E3_kp : E3.kp = E.kp := rfl
theorem E3_zr : E3.zr 34 = zrP := rfl
theorem E3_zrO : E3.zr 41 = E.zr 41 := rfl
theorem E3_zrR : E3.zr 85 = E.zr 85 := rfl
theorem zrP_len : zrP.length = 20 := rfl
theorem zrP_sol : solids zrP = true := rfl
attribute [push_cast] E3_ty E3_lv E3_kp E3_zr E3_zrO E3_zrR zrP_len zrP_sol
def procN (id : Int) (p : GProgram) (l : List GPageRef) : GObject := { (default : GObject) with ID := id, Kind := 1, Process := { (default : GProcess) with State := 1, Program := p, Pages := l } }
def newO (id : Int) (p : GProgram) (pages : List Int) : GObject × Int :=
  if (id == 0 || chkE p != 0) = true then (default, 1) else if ((pages.length : Int) != p.Pages) = true then (default, 2)
  else if (!prB (procN id p (pages.map fun x => { (default : GPageRef) with ID := x }))) = true then (default, 1)
  else (procN id p (pages.map fun x => { (default : GPageRef) with ID := x }), 0)
def nilP : SV := .sl true 0 0 fun _ => []
def prC (p : GProgram) (q : SV) : List SV := putL (GProcess.c { (default : GProcess) with State := 1, Program := p }) 15 [q]
def nwC (id : Int) (p : GProgram) (q : SV) : List SV := putL (GObject.c (procN id p [])) 18 [q]
theorem prC_mk (p : GProgram) : putL (putL zrP 0 [.int .i64 1]) 3 p.c = prC p nilP := rfl
theorem prC_len (p : GProgram) (q : SV) : (prC p q).length = 20 := rfl
theorem prC_sol (p : GProgram) : solids (prC p nilP) = true := rfl
theorem nwC_mk (id : Int) (p : GProgram) (q : SV) : putL (GObject.c { (default : GObject) with ID := id, Kind := 1 }) 3 (prC p q) = nwC id p q := by kernel_rfl
theorem nwC_len (id : Int) (p : GProgram) (q : SV) : (nwC id p q).length = 36 := rfl
theorem nwC_t (id : Int) (p : GProgram) (q : SV) : (nwC id p q).take 36 = nwC id p q := rfl
theorem nwC_solN (id : Int) (p : GProgram) : solids (nwC id p nilP) = true := rfl
theorem nwC_g (id : Int) (p : GProgram) (q d : SV) : (nwC id p q).getD 18 d = q := rfl
theorem nwC_p (id : Int) (p : GProgram) (q q2 : SV) : putL (nwC id p q) 18 [q2] = nwC id p q2 := rfl
theorem nwC_set (id : Int) (p : GProgram) (q q2 : SV) : (nwC id p q).set 18 q2 = nwC id p q2 := rfl
theorem nwC_q (id : Int) (p : GProgram) (q : SV) : putL (GObject.c default) 0 (nwC id p q) = nwC id p q := putO rfl
attribute [push_cast] prC_mk prC_len prC_sol nwC_mk nwC_len nwC_t nwC_solN nwC_g nwC_p nwC_q
theorem ec_ref16_New (id : Int) (p : GProgram) (pages : List Int) (h1 : p.Code.length ≤ 1000000) (h2 : p.Strings.length ≤ 1000000) (h3 : pages.length ≤ 1000000) : EC Tryz.prog 14 [.int .u64 id, .agg p.c, slL 1 (intC .u64) default pages] [] fun r N => N = [] ∧ r = r2k (newO id p pages) := by
  refine EC.finK ?_
  (refine nK E3_ok call_14 Tryz.func14 Tryz.ntmps14 Tryz.results14 ?_)
  intro fr
  (refine EC.useP (ec_ref04_Check _ h1 h2) ?_; rintro x -; refine eK E3_ok ?_)
  refine ⟨fun g => ?_, fun g => ⟨fun g2 => ?_, fun g2 => ?_⟩⟩
  · (repeat' (first | refine eK E3_ok ?_ | refine zL ?_ | apply Lt.t2 | apply Lt.t3 | apply Lt.t4 | apply Lt.aggE | apply FzA.aggE | (with_reducible intro _) | with_reducible apply And.intro | exact trivial)) <;> (first | exact zA | exact ([] : List Own) | (simp [newO, *]; done) | (simp_all [newO]; done) | skip)
  · have hr : newO id p pages = (default, 2) := by unfold newO; rw [if_neg (by rw [g]; simp), if_pos g2]
    rw [hr]
    (repeat' (first | refine eK E3_ok ?_ | refine zL ?_ | apply Lt.t2 | apply Lt.t3 | apply Lt.t4 | apply Lt.aggE | apply FzA.aggE | (with_reducible intro _) | with_reducible apply And.intro | exact trivial)) <;> (first | exact zA | exact ([] : List Own) | skip)
  intro fr1
  generalize hm : (pages.map fun x => ({ (default : GPageRef) with ID := x } : GPageRef)) = m
  have hr : newO id p pages = if (!prB (procN id p m)) = true then (default, 1) else (procN id p m, 0) := by
    unfold newO; rw [if_neg (by rw [g]; simp), if_neg (by rw [g2]; simp), hm]
  rw [hr]
  refine EV_matrC 2 0 18 85 2 (by simp) rfl rfl rfl ?_
  intro hh
  simp only [nwC_set, List.set_cons_succ, List.set_cons_zero, List.length_cons, List.length_nil, List.cons_append, List.nil_append, Nat.zero_add, Nat.reduceAdd]
  have hml : m.length = pages.length := by rw [← hm, List.length_map]
  refine EV_loopK E3_ok [6, 10, 35, 36] (fun x : Nat × RowH => [(37, .int .i64 x.1)]) (fun B x => updH (updX B 2 [nwC id p (.row 3 x.2 2 0 x.1)]) 3 x.2 ((m.take x.1).map GPageRef.c)) (fun x => x.1 ≤ pages.length) (fun x => pages.length - x.1) (0, hh) (Nat.zero_le _) ?_
  rintro ⟨i, h0⟩ hi
  replace hi : i ≤ pages.length := hi
  have hw : IntKind.i64.wrap ((i : Int) + 1) = ((i + 1 : Nat) : Int) := by rw [i64_in' (by omega)]; omega
  simp only [hw, push_cast, simprocAttr]
  refine ⟨fun h => ⟨⟨by omega, h⟩, fun fr2 => ⟨⟨by simp; omega, by omega⟩, ?_⟩⟩, fun h => ?_⟩
  · have hlt : i < m.length := by omega
    have e : List.take i (List.map GPageRef.c (List.take i m)) ++ [GPageRef.c { (default : GPageRef) with ID := pages.getD i default }] = List.map GPageRef.c (List.take (i + 1) m) := by
      rw [List.take_of_length_le (by simp; omega), List.take_succ_eq_append_getElem hlt, List.map_append]
      have : m[i] = { (default : GPageRef) with ID := pages.getD i default } := by
        have h4 : i < pages.length := by omega
        have : pages.getD i default = pages[i] := by simp [List.getD, h4]
        subst hm
        rw [this, List.getElem_map]
      rw [this]; rfl
    rw [e]
    exact NX_mk (i + 1, fr2 6) (by show i + 1 ≤ _; omega)
  · have hin : i = m.length := by simp at h; omega
    have e : List.take i m = m := by rw [hin, List.take_length]
    rw [e, hin]
    have hsm : smallO (procN id p m) := ⟨⟨Nat.zero_le _, h1, h2, by show m.length ≤ _; omega, Nat.zero_le _⟩, Nat.zero_le _, Nat.zero_le _, Nat.zero_le _, Nat.zero_le _, Nat.zero_le _, Nat.zero_le _, by intro n hn; cases hn⟩
    have hpd : pendO (procN id p m) := ⟨by show (-9223372036854775808 : Int) ≤ 0; decide, by show (0 : Int) ≤ 9223372036854775807; decide⟩
    have hF : ∀ {B : List Own} {E0 : Nat}, getD' B 3 = .row h0 E0 2 (m.map GPageRef.c) → FzA B (.agg (nwC id p (.row 3 h0 2 0 m.length))) (.agg (procN id p m).c) := fun hB => FzA.agg (FzL.put (FzL.O (procN id p [])) 18 (FzC.row hB rfl rfl) rfl)
    refine EC.lend (ec_ref16_Valid (procN id p m) hsm hpd) (LFz.cons (hF rfl).1 (hF rfl).2 .nil) (by rintro _ rfl; rfl) ?_
    rintro _ rfl
    (repeat refine eK E3_ok ?_)
    refine ⟨fun h => ?_, fun h => ⟨rfl, ?_⟩⟩
    · rw [if_pos h]
      (repeat' (first | refine eK E3_ok ?_ | refine zL ?_ | apply Lt.t2 | apply Lt.t3 | apply Lt.t4 | apply Lt.aggE | apply FzA.aggE | (with_reducible intro _) | with_reducible apply And.intro | exact trivial)) <;> (first | exact zA | exact ([] : List Own) | skip)
    · have h5 : prB (procN id p m) = true := by simpa using h
      rw [h5]
      exact Lt.t2 (hF rfl) FzA.int
theorem ec_New (id : Int) (p : GProgram) (pages : List Int) (h1 : p.Code.length ≤ 1000000) (h2 : p.Strings.length ≤ 1000000) (h3 : pages.length ≤ 1000000) : EC Tryz.prog 13 [.int .u64 id, .agg p.c, slL 1 (intC .u64) default pages] [] fun r N => N = [] ∧ r = r2k (newO id p pages) := by
  refine EC.finK ?_
  (refine nK E3_ok call_13 Tryz.func13 Tryz.ntmps13 Tryz.results13 ?_)
  intro fr
  (refine EC.useP (ec_Check _ h1 h2) ?_; rintro x -; refine eK E3_ok ?_)
  refine ⟨fun g => ?_, fun g => ⟨fun g2 => ?_, fun g2 => ?_⟩⟩
  · (repeat' (first | refine eK E3_ok ?_ | refine zL ?_ | apply Lt.t2 | apply Lt.t3 | apply Lt.t4 | apply Lt.aggE | apply FzA.aggE | (with_reducible intro _) | with_reducible apply And.intro | exact trivial)) <;> (first | exact zA | exact ([] : List Own) | (simp [newO, *]; done) | (simp_all [newO]; done) | skip)
  · have hr : newO id p pages = (default, 2) := by unfold newO; rw [if_neg (by rw [g]; simp), if_pos g2]
    rw [hr]
    (repeat' (first | refine eK E3_ok ?_ | refine zL ?_ | apply Lt.t2 | apply Lt.t3 | apply Lt.t4 | apply Lt.aggE | apply FzA.aggE | (with_reducible intro _) | with_reducible apply And.intro | exact trivial)) <;> (first | exact zA | exact ([] : List Own) | skip)
  (refine EC.use (ec_clone_Program p h1 h2) ?_; refine eK E3_ok ?_)
  intro fr1
  generalize hm : (pages.map fun x => ({ (default : GPageRef) with ID := x } : GPageRef)) = m
  have hr : newO id p pages = if (!prB (procN id p m)) = true then (default, 1) else (procN id p m, 0) := by
    unfold newO; rw [if_neg (by rw [g]; simp), if_neg (by rw [g2]; simp), hm]
  rw [hr]
  refine EV_matrC 2 0 18 85 2 (by simp) rfl rfl rfl ?_
  intro hh
  simp only [nwC_set, List.set_cons_succ, List.set_cons_zero, List.length_cons, List.length_nil, List.cons_append, List.nil_append, Nat.zero_add, Nat.reduceAdd]
  have hml : m.length = pages.length := by rw [← hm, List.length_map]
  refine EV_loopK E3_ok [6, 10, 36, 37] (fun x : Nat × RowH => [(38, .int .i64 x.1)]) (fun B x => updH (updX B 2 [nwC id p (.row 3 x.2 2 0 x.1)]) 3 x.2 ((m.take x.1).map GPageRef.c)) (fun x => x.1 ≤ pages.length) (fun x => pages.length - x.1) (0, hh) (Nat.zero_le _) ?_
  rintro ⟨i, h0⟩ hi
  replace hi : i ≤ pages.length := hi
  have hw : IntKind.i64.wrap ((i : Int) + 1) = ((i + 1 : Nat) : Int) := by rw [i64_in' (by omega)]; omega
  simp only [hw, push_cast, simprocAttr]
  refine ⟨fun h => ⟨⟨by omega, h⟩, fun fr2 => ⟨⟨by simp; omega, by omega⟩, ?_⟩⟩, fun h => ?_⟩
  · have hlt : i < m.length := by omega
    have e : List.take i (List.map GPageRef.c (List.take i m)) ++ [GPageRef.c { (default : GPageRef) with ID := pages.getD i default }] = List.map GPageRef.c (List.take (i + 1) m) := by
      rw [List.take_of_length_le (by simp; omega), List.take_succ_eq_append_getElem hlt, List.map_append]
      have : m[i] = { (default : GPageRef) with ID := pages.getD i default } := by
        have h4 : i < pages.length := by omega
        have : pages.getD i default = pages[i] := by simp [List.getD, h4]
        subst hm
        rw [this, List.getElem_map]
      rw [this]; rfl
    rw [e]
    exact NX_mk (i + 1, fr2 6) (by show i + 1 ≤ _; omega)
  · have hin : i = m.length := by simp at h; omega
    have e : List.take i m = m := by rw [hin, List.take_length]
    rw [e, hin]
    have hsm : smallO (procN id p m) := ⟨⟨Nat.zero_le _, h1, h2, by show m.length ≤ _; omega, Nat.zero_le _⟩, Nat.zero_le _, Nat.zero_le _, Nat.zero_le _, Nat.zero_le _, Nat.zero_le _, Nat.zero_le _, by intro n hn; cases hn⟩
    have hpd : pendO (procN id p m) := ⟨by show (-9223372036854775808 : Int) ≤ 0; decide, by show (0 : Int) ≤ 9223372036854775807; decide⟩
    have hF : ∀ {B : List Own} {E0 : Nat}, getD' B 3 = .row h0 E0 2 (m.map GPageRef.c) → FzA B (.agg (nwC id p (.row 3 h0 2 0 m.length))) (.agg (procN id p m).c) := fun hB => FzA.agg (FzL.put (FzL.O (procN id p [])) 18 (FzC.row hB rfl rfl) rfl)
    refine EC.lend (ec_pr_Valid (procN id p m) hsm) (LFz.cons (hF rfl).1 (hF rfl).2 .nil) (by rintro _ rfl; rfl) ?_
    rintro _ rfl
    (repeat refine eK E3_ok ?_)
    refine ⟨fun h => ?_, fun h => ⟨rfl, ?_⟩⟩
    · rw [if_pos h]
      (repeat' (first | refine eK E3_ok ?_ | refine zL ?_ | apply Lt.t2 | apply Lt.t3 | apply Lt.t4 | apply Lt.aggE | apply FzA.aggE | (with_reducible intro _) | with_reducible apply And.intro | exact trivial)) <;> (first | exact zA | exact ([] : List Own) | skip)
    · have h5 : prB (procN id p m) = true := by simpa using h
      rw [h5]
      exact Lt.t2 (hF rfl) FzA.int
end Go.Proofs.YtfmldmafigpblaaGreatDoor
end
section
namespace Go.Proofs.YtfmldmafigpblaaGreatDoor
open Go.Lift
set_option linter.unusedSimpArgs false
set_option linter.unusedVariables false
set_option maxRecDepth 10000
def known (I : Int → Prop) (o : GObject) : Prop := I o.ID ∧ (∀ c ∈ o.Process.Children, I c) ∧ (∀ p ∈ o.Process.Pages, I p.ID) ∧ (∀ n ∈ o.Names, ∀ i ∈ n.IDs, I i)
structure okO (I D : Int → Prop) (o : GObject) : Prop where
  sm : smallO o
  pd : pendO o
  pr : o.Kind = 1 → prB o = true
  kn : known I o
  nm : ∀ n ∈ o.Names, 1 ≤ n.IDs.length
  ds : o.Kind = 1 → ¬ D o.ID ∧ ∀ s ∈ o.Process.Table, s.Kind = 1 → D s.Description
theorem small_def : smallO default := ⟨⟨Nat.zero_le _, Nat.zero_le _, Nat.zero_le _, Nat.zero_le _, Nat.zero_le _⟩, Nat.zero_le _, Nat.zero_le _, Nat.zero_le _, Nat.zero_le _, Nat.zero_le _, Nat.zero_le _, by intro n hn; cases hn⟩
theorem pend_def : pendO default := ⟨by decide, by decide⟩
theorem okO_def {I D : Int → Prop} (h : I 0) : okO I D default := ⟨small_def, pend_def, fun h => absurd h (by decide), ⟨h, fun c hc => (nomatch hc), fun c hc => (nomatch hc), fun c hc => (nomatch hc)⟩, fun c hc => (nomatch hc), fun h => absurd h (by decide)⟩
theorem okO.mono {I J D : Int → Prop} {o : GObject} (h : okO I D o) (hj : ∀ x, I x → J x) : okO J D o :=
  ⟨h.sm, h.pd, h.pr, ⟨hj _ h.kn.1, fun c hc => hj _ (h.kn.2.1 c hc), fun c hc => hj _ (h.kn.2.2.1 c hc), fun n hn i hi => hj _ (h.kn.2.2.2 n hn i hi)⟩, h.nm, h.ds⟩
theorem okO.monoD {I D D' : Int → Prop} {o : GObject} (h : okO I D o) (hd : ∀ x, D x → D' x) (hn : o.Kind = 1 → ¬ D' o.ID) : okO I D' o :=
  ⟨h.sm, h.pd, h.pr, h.kn, h.nm, fun e => ⟨hn e, fun s hs hk => hd _ ((h.ds e).2 s hs hk)⟩⟩
structure Liv (o : GObject) : Prop where
  k : o.Kind = 1
  id : o.ID ≠ 0
  on : onlyB o 2 = true
  fam : famL o.ID o.Process.Children = true
  par : o.Process.Parent ≠ o.ID
  cl : o.Process.Children.length ≤ 32
  st : o.Process.State = 1 ∨ o.Process.State = 2
  chk : chkE o.Process.Program = 0
  sp : spOk o.Process.Pages = true
  tb : tbOk o.Process.Table = true
  sg : sigOk o.Process.Pending = true
  al : 0 ≤ o.Process.Alarm ∧ o.Process.Alarm ≤ 1073741824
  ss : o.Process.State = 1 → o.Process.Status = 0
theorem prB_iff (o : GObject) : prB o = true ↔ (o.Kind = 1 ∧ o.ID ≠ 0 ∧ onlyB o 2 = true ∧ famB o = true) ∧ ((o.Process.State = 3 ∧ o.Process.Parent ≠ 0 ∧ restB o.Process = true) ∨ (o.Process.State = 1 ∨ o.Process.State = 2) ∧ chkE o.Process.Program = 0 ∧ spOk o.Process.Pages = true ∧ tbOk o.Process.Table = true ∧ sigOk o.Process.Pending = true ∧ (0 ≤ o.Process.Alarm ∧ o.Process.Alarm ≤ 1073741824) ∧ (o.Process.State = 2 ∨ o.Process.Status = 0)) := by
  unfold prB
  split
  · rename_i g
    simp only [Bool.false_eq_true, false_iff]
    rintro ⟨⟨h1, h2, h3, h4⟩, -⟩
    simp [h1, h2, h3, h4] at g
  · rename_i g
    have g' : o.Kind = 1 ∧ o.ID ≠ 0 ∧ onlyB o 2 = true ∧ famB o = true := by simpa [not_or, and_assoc] using g
    simp only [g', true_and, and_self, ne_eq, not_false_eq_true]
    by_cases h3 : o.Process.State = 3
    · simp [h3]
    · by_cases h12 : o.Process.State = 1 ∨ o.Process.State = 2
      · rcases h12 with h | h <;> simp [h, and_assoc]
      · have h1 : ¬ o.Process.State = 1 := fun e => h12 (.inl e)
        have h2 : ¬ o.Process.State = 2 := fun e => h12 (.inr e)
        simp [h3, h1, h2]
theorem famB_iff (o : GObject) : famB o = true ↔ famL o.ID o.Process.Children = true ∧ o.Process.Parent ≠ o.ID ∧ o.Process.Children.length ≤ 32 := by
  unfold famB
  simp
  intros
  omega
theorem Liv.of {o : GObject} (h : prB o = true) (h3 : o.Process.State ≠ 3) : Liv o := by
  obtain ⟨⟨h1, h2, h4, h5⟩, h6⟩ := (prB_iff o).1 h
  obtain ⟨f1, f2, f3⟩ := (famB_iff o).1 h5
  rcases h6 with h6 | ⟨a, b, c, d, e, f, g⟩
  · exact absurd h6.1 h3
  · exact ⟨h1, h2, h4, f1, f2, f3, a, b, c, d, e, f, fun h7 => g.resolve_left (by omega)⟩
theorem Liv.pr {o : GObject} (h : Liv o) : prB o = true :=
  (prB_iff o).2 ⟨⟨h.k, h.id, h.on, (famB_iff o).2 ⟨h.fam, h.par, h.cl⟩⟩, .inr ⟨h.st, h.chk, h.sp, h.tb, h.sg, h.al, h.st.elim (fun h1 => .inr (h.ss h1)) .inl⟩⟩
theorem Liv.n3 {o : GObject} (h : Liv o) : o.Process.State ≠ 3 := by have := h.st; omega
theorem only2 (o : GObject) (p : GProcess) : onlyB { o with Process := p } 2 = onlyB o 2 := by
  have h2 : ∀ b, okB 2 2 b = true := fun b => by
    have : (bitI .andNot .i64 2 2 == 0) = true := by decide
    simp [okB, this]
  simp only [onlyB, h2]
theorem Liv.on' {o : GObject} (h : Liv o) (p : GProcess) : onlyB { o with Process := p } 2 = true := by rw [only2]; exact h.on
theorem famL_iff {id : Int} {l : List Int} : famL id l = true ↔ (∀ x ∈ l, x ≠ 0 ∧ x ≠ id) ∧ l.Nodup := by
  constructor
  · intro h
    refine ⟨fun x hx => ?_, famL_nodup h⟩
    obtain ⟨i, hi, rfl⟩ := List.mem_iff_getElem.1 hx
    simp only [famL, List.all_eq_true, List.mem_range, famP] at h
    have := h i hi
    simp [List.getD, hi] at this
    exact this.1
  · rintro ⟨h1, h2⟩
    simp only [famL, List.all_eq_true, List.mem_range, famP]
    intro i hi
    have e : l.getD i default = l[i] := by simp [List.getD, hi]
    rw [e]
    have h3 := h1 l[i] (List.getElem_mem hi)
    have h4 : l[i] ∉ l.take i := by
      intro hm
      obtain ⟨j, hj, he⟩ := List.mem_take_iff_getElem.1 hm
      rw [List.nodup_iff_pairwise_ne, List.pairwise_iff_getElem] at h2
      have hji : j < i := by omega
      exact h2 j i (by omega) hi hji he
    simp [h3, h4]
theorem famL_snoc {id x : Int} {l : List Int} (h : famL id l = true) (h0 : x ≠ 0) (h1 : x ≠ id) (h2 : x ∉ l) : famL id (l ++ [x]) = true := by
  rw [famL_iff] at h ⊢
  refine ⟨fun y hy => ?_, ?_⟩
  · rcases List.mem_append.1 hy with hy | hy
    · exact h.1 y hy
    · rw [List.mem_singleton.1 hy]; exact ⟨h0, h1⟩
  · rw [List.nodup_append]
    exact ⟨h.2, by simp, fun a ha b hb => by rw [List.mem_singleton.1 hb]; rintro rfl; exact h2 ha⟩
theorem famL_without {id x : Int} {l : List Int} (h : famL id l = true) : famL id (without x l) = true := by
  rw [famL_iff] at h ⊢
  exact ⟨fun y hy => h.1 y (List.mem_filter.1 hy).1, h.2.sublist List.filter_sublist⟩
theorem i64_rg (n : Int) : -9223372036854775808 ≤ IntKind.i64.wrap n ∧ IntKind.i64.wrap n ≤ 9223372036854775807 := by
  rw [IntKind.wrap_i64]; omega
theorem sigOk_or (x y : Int) (h1 : sigOk x = true) (h2 : sigOk y = true) : sigOk (bitI .or .i64 x y) = true := by
  simp only [sigOk, bitI_andNot, bitI_or, wrap0, ofInt_wrap, beq_iff_eq] at *
  generalize BitVec.ofInt 64 x = a at *
  generalize BitVec.ofInt 64 y = b at *
  generalize BitVec.ofInt 64 4294966782 = z at *
  have e : (a ||| b) &&& ~~~z = (a &&& ~~~z) ||| (b &&& ~~~z) := by
    ext i; simp only [BitVec.getElem_and, BitVec.getElem_or, BitVec.getElem_not]; cases a[i] <;> cases b[i] <;> cases z[i] <;> rfl
  rw [e, h1, h2]; simp
theorem sigOk_shl : ∀ s : Nat, s < 32 → s ≠ 0 → s ≠ 9 → sigOk (shl1 (s : Int)) = true := by decide +kernel
theorem sigOk_shl' {s : Int} (h : ¬(s < 1 ∨ 31 < s)) (h9 : s ≠ 9) : sigOk (shl1 s) = true := by
  obtain ⟨n, rfl⟩ := Int.eq_ofNat_of_zero_le (show 0 ≤ s by omega)
  exact sigOk_shl n (by omega) (by omega) (by omega)
structure pSame (p q : GProcess) : Prop where
  par : q.Parent = p.Parent
  ch : q.Children = p.Children
  prog : q.Program = p.Program
  pg : q.Pages = p.Pages
  tb : q.Table = p.Table
theorem raise_same {p : GProcess} {s : Int} (h : (sigRaise p s).2 = 0) : pSame p (sigRaise p s).1 := by
  unfold sigRaise at h ⊢
  repeat' split
  all_goals first | exact ⟨rfl, rfl, rfl, rfl, rfl⟩ | (exfalso; simp_all)
theorem raise_liv {o : GObject} {s : Int} (ho : Liv o) (h : (sigRaise o.Process s).2 = 0) : Liv { o with Process := (sigRaise o.Process s).1 } := by
  have e := raise_same h
  have hx : ((sigRaise o.Process s).1.State = 1 ∨ (sigRaise o.Process s).1.State = 2) ∧ sigOk (sigRaise o.Process s).1.Pending = true ∧ (0 ≤ (sigRaise o.Process s).1.Alarm ∧ (sigRaise o.Process s).1.Alarm ≤ 1073741824) ∧ ((sigRaise o.Process s).1.State = 1 → (sigRaise o.Process s).1.Status = 0) := by
    have h1 := ho.st
    have h2 := ho.sg
    have h3 := ho.al
    have h4 := ho.ss
    unfold sigRaise at h ⊢
    split
    · rename_i g; simp [g] at h
    rename_i g
    split
    · rename_i g2; rw [if_neg g, if_pos g2] at h; simp at h
    split
    · rename_i g3
      refine ⟨h1, sigOk_or _ _ h2 (sigOk_shl' (by simpa using g) (by simpa using g3)), h3, h4⟩
    split
    · exact ⟨.inr rfl, h2, h3, fun e => by simp at e⟩
    · exact ⟨h1, h2, h3, h4⟩
  refine ⟨ho.k, ho.id, ho.on' _, ?_, ?_, ?_, hx.1, ?_, ?_, ?_, hx.2.1, hx.2.2.1, hx.2.2.2⟩
  · show famL o.ID (sigRaise o.Process s).1.Children = true
    rw [e.ch]; exact ho.fam
  · show (sigRaise o.Process s).1.Parent ≠ o.ID
    rw [e.par]; exact ho.par
  · show (sigRaise o.Process s).1.Children.length ≤ 32
    rw [e.ch]; exact ho.cl
  · show chkE (sigRaise o.Process s).1.Program = 0
    rw [e.prog]; exact ho.chk
  · show spOk (sigRaise o.Process s).1.Pages = true
    rw [e.pg]; exact ho.sp
  · show tbOk (sigRaise o.Process s).1.Table = true
    rw [e.tb]; exact ho.tb
theorem raise_pend {p : GProcess} {s : Int} (h : -9223372036854775808 ≤ p.Pending ∧ p.Pending ≤ 9223372036854775807) : -9223372036854775808 ≤ (sigRaise p s).1.Pending ∧ (sigRaise p s).1.Pending ≤ 9223372036854775807 := by
  unfold sigRaise
  repeat' split
  · exact pend_def
  · exact pend_def
  · exact i64_rg _
  · exact h
  · exact h
theorem okO_same {I D : Int → Prop} {o : GObject} {q : GProcess} (h : okO I D o) (hs : pSame o.Process q) (hp : -9223372036854775808 ≤ q.Pending ∧ q.Pending ≤ 9223372036854775807) (hl : o.Kind = 1 → prB { o with Process := q } = true) : okO I D { o with Process := q } := by
  refine ⟨⟨⟨?_, ?_, ?_, ?_, ?_⟩, h.sm.2⟩, hp, hl, ⟨h.kn.1, ?_, ?_, h.kn.2.2.2⟩, h.nm, fun e => ⟨(h.ds e).1, ?_⟩⟩
  · show q.Children.length ≤ _; rw [hs.ch]; exact h.sm.1.1
  · show q.Program.Code.length ≤ _; rw [hs.prog]; exact h.sm.1.2.1
  · show q.Program.Strings.length ≤ _; rw [hs.prog]; exact h.sm.1.2.2.1
  · show q.Pages.length ≤ _; rw [hs.pg]; exact h.sm.1.2.2.2.1
  · show q.Table.length ≤ _; rw [hs.tb]; exact h.sm.1.2.2.2.2
  · show ∀ c ∈ q.Children, I c; rw [hs.ch]; exact h.kn.2.1
  · show ∀ p ∈ q.Pages, I p.ID; rw [hs.pg]; exact h.kn.2.2.1
  · show ∀ s ∈ q.Table, s.Kind = 1 → D s.Description; rw [hs.tb]; exact (h.ds e).2
theorem raise_n3 {p : GProcess} {s : Int} (h : (sigRaise p s).2 = 0) : p.State ≠ 3 := by
  intro e
  unfold sigRaise at h
  split at h
  · simp at h
  · rw [if_pos (by rw [e]; rfl)] at h; simp at h
theorem okO_raise {I D : Int → Prop} {o : GObject} {s : Int} (h : okO I D o) (h2 : (sigRaise o.Process s).2 = 0) : okO I D { o with Process := (sigRaise o.Process s).1 } :=
  okO_same h (raise_same h2) (raise_pend h.pd) fun hk => (raise_liv (Liv.of (h.pr hk) (raise_n3 h2)) h2).pr
structure okP (I D : Int → Prop) (o : GObject) : Prop extends okO I D o where
  lv : Liv o
theorem okP.mono {I J D : Int → Prop} {o : GObject} (h : okP I D o) (hj : ∀ x, I x → J x) : okP J D o := ⟨h.tookO.mono hj, h.lv⟩
theorem okP_raise {I D : Int → Prop} {o : GObject} {s : Int} (h : okP I D o) (h2 : (sigRaise o.Process s).2 = 0) : okP I D { o with Process := (sigRaise o.Process s).1 } :=
  ⟨okO_raise h.tookO h2, raise_liv h.lv h2⟩
theorem okP_take {I D : Int → Prop} {o : GObject} (h : okP I D o) : okP I D { o with Process := { o.Process with Pending := 0 } } := by
  have hl : Liv { o with Process := { o.Process with Pending := 0 } } := ⟨h.lv.k, h.lv.id, h.lv.on' _, h.lv.fam, h.lv.par, h.lv.cl, h.lv.st, h.lv.chk, h.lv.sp, h.lv.tb, sig_00, h.lv.al, h.lv.ss⟩
  exact ⟨okO_same h.tookO ⟨rfl, rfl, rfl, rfl, rfl⟩ (by show (-9223372036854775808 : Int) ≤ 0 ∧ (0 : Int) ≤ 9223372036854775807; decide) fun _ => hl.pr, hl⟩
theorem okP_alarm {I D : Int → Prop} {o : GObject} {n : Int} (h : okP I D o) (hn : 0 ≤ n ∧ n ≤ 1073741824) : okP I D { o with Process := { o.Process with Alarm := n } } := by
  have hl : Liv { o with Process := { o.Process with Alarm := n } } := ⟨h.lv.k, h.lv.id, h.lv.on' _, h.lv.fam, h.lv.par, h.lv.cl, h.lv.st, h.lv.chk, h.lv.sp, h.lv.tb, h.lv.sg, hn, h.lv.ss⟩
  exact ⟨okO_same h.tookO ⟨rfl, rfl, rfl, rfl, rfl⟩ h.pd fun _ => hl.pr, hl⟩
theorem okP_almSet {I D : Int → Prop} {o : GObject} {n : Int} (h : okP I D o) (h2 : (almSet o.Process n).2.2 = 0) : okP I D { o with Process := (almSet o.Process n).2.1 } := by
  unfold almSet at h2 ⊢
  split
  · rename_i g; rw [if_pos g] at h2; simp at h2
  · rename_i g
    simp [wrongB] at g
    exact okP_alarm h (by omega)
theorem okP_almTick {I D : Int → Prop} {o : GObject} {n : Int} (h : okP I D o) (h2 : (almTick o.Process n).2 = 0) : okP I D { o with Process := (almTick o.Process n).1 } := by
  unfold almTick at h2 ⊢
  split
  · rename_i g; rw [if_pos g] at h2; simp at h2
  rename_i g
  rw [if_neg g] at h2
  simp [wrongB] at g
  split
  · exact h
  rename_i g2
  rw [if_neg g2] at h2
  split
  · rename_i g3
    simp at g3
    have := h.lv.al
    rw [i64_in' (by omega)]
    exact okP_alarm h (by omega)
  · rename_i g3
    rw [if_neg g3] at h2
    have ha := okP_alarm (n := 0) h (by omega)
    exact okP_raise (o := { o with Process := { o.Process with Alarm := 0 } }) ha h2
theorem okP_cpu {I D : Int → Prop} {o : GObject} (c : GCPU) (h : okP I D o) : okP I D { o with Process := { o.Process with CPU := c } } := by
  have hl : Liv { o with Process := { o.Process with CPU := c } } := ⟨h.lv.k, h.lv.id, h.lv.on' _, h.lv.fam, h.lv.par, h.lv.cl, h.lv.st, h.lv.chk, h.lv.sp, h.lv.tb, h.lv.sg, h.lv.al, h.lv.ss⟩
  exact ⟨okO_same h.tookO ⟨rfl, rfl, rfl, rfl, rfl⟩ h.pd fun _ => hl.pr, hl⟩
theorem okP_table {I D : Int → Prop} {o : GObject} {t : List GSlot} (h : okP I D o) (ht : tbOk t = true) (hd : ∀ s ∈ t, s.Kind = 1 → D s.Description) : okP I D { o with Process := { o.Process with Table := t } } := by
  have hl : Liv { o with Process := { o.Process with Table := t } } := ⟨h.lv.k, h.lv.id, h.lv.on' _, h.lv.fam, h.lv.par, h.lv.cl, h.lv.st, h.lv.chk, h.lv.sp, ht, h.lv.sg, h.lv.al, h.lv.ss⟩
  exact ⟨⟨⟨⟨h.sm.1.1, h.sm.1.2.1, h.sm.1.2.2.1, h.sm.1.2.2.2.1, by have := (tbOk_len ht).1; show t.length ≤ _; omega⟩, h.sm.2⟩, h.pd, fun _ => hl.pr, h.kn, h.nm, fun e => ⟨(h.ds e).1, hd⟩⟩, hl⟩
theorem okP_pages {I D : Int → Prop} {o : GObject} {l : List GPageRef} (h : okP I D o) (ht : spOk l = true) (hk : ∀ p ∈ l, I p.ID) : okP I D { o with Process := { o.Process with Pages := l } } := by
  have hl : Liv { o with Process := { o.Process with Pages := l } } := ⟨h.lv.k, h.lv.id, h.lv.on' _, h.lv.fam, h.lv.par, h.lv.cl, h.lv.st, h.lv.chk, ht, h.lv.tb, h.lv.sg, h.lv.al, h.lv.ss⟩
  exact ⟨⟨⟨⟨h.sm.1.1, h.sm.1.2.1, h.sm.1.2.2.1, by have := spOk_len (l := l) (by rw [ht]; rfl); show l.length ≤ _; omega, h.sm.1.2.2.2.2⟩, h.sm.2⟩, h.pd, fun _ => hl.pr, ⟨h.kn.1, h.kn.2.1, hk, h.kn.2.2.2⟩, h.nm, h.ds⟩, hl⟩
theorem okP_children {I D : Int → Prop} {o : GObject} {l : List Int} (h : okP I D o) (hf : famL o.ID l = true) (hn : l.length ≤ 32) (hk : ∀ c ∈ l, I c) : okP I D { o with Process := { o.Process with Children := l } } := by
  have hl : Liv { o with Process := { o.Process with Children := l } } := ⟨h.lv.k, h.lv.id, h.lv.on' _, hf, h.lv.par, hn, h.lv.st, h.lv.chk, h.lv.sp, h.lv.tb, h.lv.sg, h.lv.al, h.lv.ss⟩
  exact ⟨⟨⟨⟨by show l.length ≤ _; omega, h.sm.1.2⟩, h.sm.2⟩, h.pd, fun _ => hl.pr, ⟨h.kn.1, hk, h.kn.2.2⟩, h.nm, h.ds⟩, hl⟩
end Go.Proofs.YtfmldmafigpblaaGreatDoor
end
section
namespace Go.Proofs.YtfmldmafigpblaaGreatDoor
open Go.Lift
set_option linter.unusedSimpArgs false
set_option linter.unusedVariables false
set_option maxRecDepth 10000
attribute [local irreducible] EC EV
def chR (o : GObject) (id : Int) (l : List GPageRef) : GObject :=
  { (default : GObject) with ID := id, Kind := 1, Process := { (default : GProcess) with State := o.Process.State, Parent := o.ID, Program := o.Process.Program, CPU := o.Process.CPU, Pages := l, Table := o.Process.Table } }
def forkR (o : GObject) (id : Int) (pages : List Int) : GObject × GObject × Int :=
  if (!prB o) = true then (default, default, 1) else if (o.Process.State != 1) = true then (default, default, 8) else if decide (32 ≤ (o.Process.Children.length : Int)) = true then (default, default, 3)
  else if (id == 0 || id == o.ID || decide (id ∈ o.Process.Children)) = true then (default, default, 1)
  else if ((pages.length : Int) != ((spPriv o.Process.Pages).length : Int)) = true then (default, default, 2)
  else if ((spRepl o.Process.Pages pages).2 != 0 || !prB (chR o id (spRepl o.Process.Pages pages).1)) = true then (default, default, 1)
  else ({ o with Process := { o.Process with Children := o.Process.Children ++ [id] } }, chR o id (spRepl o.Process.Pages pages).1, 0)
theorem spRepl_len {l : List GPageRef} {ids : List Int} (h : l.length ≤ 1000000) : (spRepl l ids).1.length ≤ 1000000 := by
  simp only [spRepl]
  split
  · simp
  · split
    · simp
    · split
      · simp
      · rw [replL_len]; exact h
def chN (o : GObject) (id : Int) (l : List GPageRef) : GObject := { chR o id l with Process := { (chR o id l).Process with Table := [] } }
def chC (o : GObject) (id : Int) (l : List GPageRef) (q : SV) : List SV := putL (chN o id l).c 19 [q]
theorem chC_mk (o : GObject) (id : Int) (l : List GPageRef) (q : SV) : putL (GObject.c { (default : GObject) with ID := id, Kind := 1 }) 3 (putL (GProcess.c { (default : GProcess) with State := o.Process.State, Parent := o.ID, Program := o.Process.Program, CPU := o.Process.CPU, Pages := l }) 16 [q]) = chC o id l q := by kernel_rfl
theorem chC_len (o : GObject) (id : Int) (l : List GPageRef) (q : SV) : (chC o id l q).length = 36 := rfl
theorem chC_t (o : GObject) (id : Int) (l : List GPageRef) (q : SV) : (chC o id l q).take 36 = chC o id l q := rfl
theorem chC_sol (o : GObject) (id : Int) (l : List GPageRef) (i e lo n : Nat) (h : RowH) : solids (chC o id l (.row i h e lo n)) = true := rfl
theorem chC_put (o : GObject) (id : Int) (l : List GPageRef) (q : SV) : putL (GObject.c default) 0 (chC o id l q) = chC o id l q := putO rfl
attribute [push_cast] chC_mk chC_len chC_t chC_sol chC_put
theorem FzA.ch {B : List Own} {o : GObject} {id : Int} {l : List GPageRef} {i E : Nat} {h : RowH} (hB : getD' B i = .row h E 4 (o.Process.Table.map GSlot.c)) : FzA B (.agg (chC o id l (.row i h 4 0 o.Process.Table.length))) (.agg (chR o id l).c) := FzA.agg (FzL.put (FzL.O (chN o id l)) 19 (FzC.row hB rfl rfl) rfl)
theorem ec_ref16_Fork (o : GObject) (id : Int) (pages : List Int) (ho : smallO o) (hp : pendO o) (hi : pages.length ≤ 1000000) : EC Tryz.prog 18 [.agg o.c, .int .u64 id, slL 1 (intC .u64) default pages] [] fun r N => N = [] ∧ r = r3k (forkR o id pages) := by
  refine EC.finK ?_
  (refine nK E_ok call_18 Tryz.func18 Tryz.ntmps18 Tryz.results18 ?_)
  (repeat' (first | refine eK E_ok ?_ | refine EC.use (ec_ref16_Valid o ho hp) ?_ | refine EC.use (ec_ref03_HasS _ _ ho.1.1) ?_ | refine EC.use (ec_ref07_Private _ ho.1.2.2.2.1) ?_ | refine EC.use (ec_ref07_Replace _ _ ho.1.2.2.2.1 hi) ?_ | refine zL ?_ | apply Lt.t2 | apply Lt.t3 | apply Lt.t4 | apply Lt.aggE | apply FzA.aggE | (with_reducible intro _) | with_reducible apply And.intro | exact trivial)) <;> (first | exact zA | exact ([] : List Own) | (simp [forkR, *]; done) | (simp_all [forkR]; done) | skip)
  all_goals try (simp_all only [forkR, Bool.false_or, Bool.or_false, Bool.true_or, if_true, if_false, Bool.false_eq_true, reduceIte]; done)
  rename_i fr1 fr2 g1 g2 g3 g4 g5 g6
  have hr : forkR o id pages = if ((spRepl o.Process.Pages pages).2 != 0 || !prB (chR o id (spRepl o.Process.Pages pages).1)) = true then (default, default, 1) else ({ o with Process := { o.Process with Children := o.Process.Children ++ [id] } }, chR o id (spRepl o.Process.Pages pages).1, 0) := by
    simp_all only [forkR, Bool.false_or, Bool.or_false, Bool.true_or, if_true, if_false, Bool.false_eq_true, reduceIte]
  have hT : o.Process.Table.length ≤ 1000000 := ho.1.2.2.2.2
  have hcl := ho.1.1
  generalize hl : (spRepl o.Process.Pages pages).1 = l
  generalize he : (spRepl o.Process.Pages pages).2 = e
  rw [hl, he] at hr
  rw [hr]
  have hsm : smallO (chR o id l) := ⟨⟨Nat.zero_le _, ho.1.2.1, ho.1.2.2.1, by rw [← hl]; exact spRepl_len ho.1.2.2.2.1, hT⟩, Nat.zero_le _, Nat.zero_le _, Nat.zero_le _, Nat.zero_le _, Nat.zero_le _, Nat.zero_le _, by intro n hn; cases hn⟩
  have hpd : pendO (chR o id l) := ⟨by show (-9223372036854775808 : Int) ≤ 0; decide, by show (0 : Int) ≤ 9223372036854775807; decide⟩
  (refine dW E_ok 5 [false, false, false, false] [0, 1, 2, 3, 4, 5, 6, 7, 8, 9, 10, 11] fol fun R hR => ?_; (try refine sB ⟨?_⟩); (repeat ((with_reducible apply And.intro); exact sdB)))
  refine ed2 E_ok 12 15 ?_ ?_
  · (intro rh; (repeat ((with_reducible apply And.intro); exact sdB)); refine dR E_ok [13, 14, 15, 16] ?_; (repeat ((with_reducible apply And.intro); exact sdB)))
    intro rh2
    refine hR _ _ ?_
    simp only [hl, he, push_cast, simprocAttr]
    refine ⟨fun g7 => ?_, fun g7 => ?_⟩
    · refine EC.lend (ec_ref16_Valid (chR o id l) hsm hpd) (LFz.cons (FzA.ch (i := 4) rfl).1 (FzA.ch (i := 4) rfl).2 .nil) (by rintro _ rfl; rfl) ?_
      rintro _ rfl
      (repeat refine eK E_ok ?_)
      simp only [g7, Bool.false_or, Bool.or_false]
      refine ⟨fun g8 => ?_, fun g8 => ?_⟩
      · simp only [g8, if_true]
        (repeat' (first | refine eK E_ok ?_ | refine zL ?_ | apply Lt.t2 | apply Lt.t3 | apply Lt.t4 | apply Lt.aggE | apply FzA.aggE | (with_reducible intro _) | with_reducible apply And.intro | exact trivial)) <;> (first | exact zA | exact ([] : List Own) | skip)
      intro fr3
      refine ⟨by omega, by omega, ?_⟩
      simp only [g8, Bool.false_eq_true, if_false]
      (refine dD E_ok [] [false, true, true, false, false, false, false, false] [0, 1, 2, 3, 4] fol fun R hR => ?_; (repeat intro rh); (try refine sB ⟨?_⟩); (repeat ((with_reducible apply And.intro); exact sdB)); (repeat intro rh); (repeat ((with_reducible apply And.intro); exact sdB)); (try apply_assumption -exfalso))
      simp only [push_cast, simprocAttr]
      refine Lt.t3 (FzA.agg (FzL.put (FzL.O o) 5 (FzC.row rfl rfl (by simp)) rfl)) (FzA.ch (i := 4) rfl) FzA.int
    · have g9 : (e != 0) = true := by simpa using g7
      (repeat refine eK E_ok ?_)
      simp only [g9, Bool.true_or, if_true]
      (repeat' (first | refine eK E_ok ?_ | refine zL ?_ | apply Lt.t2 | apply Lt.t3 | apply Lt.t4 | apply Lt.aggE | apply FzA.aggE | (with_reducible intro _) | with_reducible apply And.intro | exact trivial)) <;> (first | exact zA | exact ([] : List Own) | skip)
  · (intro rh; (repeat ((with_reducible apply And.intro); exact sdB)); refine dR E_ok [12, 13, 14, 16] ?_; (repeat ((with_reducible apply And.intro); exact sdB)))
    intro rh2
    refine ⟨by omega, ?_⟩
    refine hR _ _ ?_
    simp only [hl, he, push_cast, simprocAttr]
    refine ⟨fun g7 => ?_, fun g7 => ?_⟩
    · refine EC.lend (ec_ref16_Valid (chR o id l) hsm hpd) (LFz.cons (FzA.ch (i := 5) rfl).1 (FzA.ch (i := 5) rfl).2 .nil) (by rintro _ rfl; rfl) ?_
      rintro _ rfl
      (repeat refine eK E_ok ?_)
      simp only [g7, Bool.false_or, Bool.or_false]
      refine ⟨fun g8 => ?_, fun g8 => ?_⟩
      · simp only [g8, if_true]
        (repeat' (first | refine eK E_ok ?_ | refine zL ?_ | apply Lt.t2 | apply Lt.t3 | apply Lt.t4 | apply Lt.aggE | apply FzA.aggE | (with_reducible intro _) | with_reducible apply And.intro | exact trivial)) <;> (first | exact zA | exact ([] : List Own) | skip)
      intro fr3
      refine ⟨by omega, by omega, ?_⟩
      simp only [g8, Bool.false_eq_true, if_false]
      (refine dD E_ok [] [false, true, true, false, false, false, false, false] [0, 1, 2, 3, 4] fol fun R hR => ?_; (repeat intro rh); (try refine sB ⟨?_⟩); (repeat ((with_reducible apply And.intro); exact sdB)); (repeat intro rh); (repeat ((with_reducible apply And.intro); exact sdB)); (try apply_assumption -exfalso))
      simp only [push_cast, simprocAttr]
      refine Lt.t3 (FzA.agg (FzL.put (FzL.O o) 5 (FzC.row rfl rfl (by simp)) rfl)) (FzA.ch (i := 5) rfl) FzA.int
    · have g9 : (e != 0) = true := by simpa using g7
      (repeat refine eK E_ok ?_)
      simp only [g9, Bool.true_or, if_true]
      (repeat' (first | refine eK E_ok ?_ | refine zL ?_ | apply Lt.t2 | apply Lt.t3 | apply Lt.t4 | apply Lt.aggE | apply FzA.aggE | (with_reducible intro _) | with_reducible apply And.intro | exact trivial)) <;> (first | exact zA | exact ([] : List Own) | skip)
end Go.Proofs.YtfmldmafigpblaaGreatDoor
end
section
namespace Go.Proofs.YtfmldmafigpblaaGreatDoor
open Go.Lift
set_option linter.unusedSimpArgs false
set_option linter.unusedVariables false
set_option maxRecDepth 10000
theorem EV_frzRow {α : Type} {P : Program} {n' : Nat} {t : Slots} {B : List Own} {Q : Post} {c : Code} (d i : Nat) {h : RowH} {E e n : Nat} {xs : List (List SV)} {cells : α → List SV} {df : α} {l : List α}
    (hd : lkp t d = .row i h e 0 n) (hB : getD' B i = .row h E e xs) (hx : xs = l.map cells) (hn : n = l.length) (hk : EV P n' c ((d, .sl false e l.length (elt cells df l)) :: t) (B.set i .gone) Q) : EV P n' c t B Q := by
  have hil : i < B.length := getD'_lt hB
  subst hx hn
  refine EV_frzI d i hil ?_ ?_ hk
  · rw [hd]; simp [frzKT, frzKA, frzKC, hB]
  · rw [hd]
    simp only [frzT, frzA, frzC, beq_self_eq_true, hB]
    refine SLe.sl (fun h => h) (.inr rfl) fun k hk => ?_
    simp [List.getD, hk, elt]
section
variable {P : Program}
def FR (B : List Own) (xs ys : List (List SV)) : Prop := xs.length = ys.length ∧ ∀ (k : Nat) (cs ds : List SV), xs[k]? = some cs → ys[k]? = some ds → cs.length ≠ 2 ∧ frzKL (fromM 1) B cs ∧ LLe (frzL (fromM 1) B cs) ds
theorem FR.one {B : List Own} {cs ds : List SV} (h2 : cs.length ≠ 2) (hk : frzKL (fromM 1) B cs) (h : LLe (frzL (fromM 1) B cs) ds) : FR B [cs] [ds] := by
  refine ⟨rfl, fun k a b ha hb => ?_⟩
  cases k with
  | zero => simp at ha hb; subst ha hb; exact ⟨h2, hk, h⟩
  | succ k => simp at ha
theorem Own.ok_frz {X : Nat → Prop} {w : World} {B : List Own} (hs : Sat X w B) {h : RowH} {E e : Nat} {xs ys : List (List SV)} (hB : getD' B 0 = .row h E e xs) (hf : FR B xs ys) : Own.ok (withSel X B (fromM 1)) w (.row h E e ys) := by
  have hok := hs.ok 0
  rw [hB] at hok
  cases h with
  | void a =>
    simp only [Own.ok] at hok ⊢
    subst hok
    exact List.length_eq_zero_iff.1 hf.1.symm
  | mp b =>
    obtain ⟨arr, clock, h1, h2⟩ := hok
    cases xs with
    | nil => rw [List.length_eq_zero_iff.1 hf.1.symm]; exact ⟨arr, clock, h1, h2⟩
    | cons x xs =>
      exfalso
      cases ys with
      | nil => simp [FR] at hf
      | cons y ys =>
        have := (hf.2 0 x y rfl rfl).1
        cases hl : arr.toList with
        | nil => rw [hl] at h2; exact h2
        | cons m ms =>
          rw [hl] at h2
          obtain ⟨⟨k1, k2, a, v, _, _, rfl⟩, _⟩ := h2
          simp at this
  | «at» b cap =>
    obtain ⟨vs, k1, k2, k3, k4, k5⟩ := hok
    have hget : ∀ {k : Nat} {ds : List SV}, ys[k]? = some ds → ∃ cs, xs[k]? = some cs ∧ frzKL (fromM 1) B cs ∧ LLe (frzL (fromM 1) B cs) ds := fun {k ds} hy => by
      have hk : k < ys.length := (List.getElem?_eq_some_iff.1 hy).1
      have hx : xs[k]? = some (xs[k]'(by rw [hf.1]; exact hk)) := List.getElem?_eq_getElem (by rw [hf.1]; exact hk)
      exact ⟨_, hx, (hf.2 k _ _ hx hy).2⟩
    refine ⟨vs, k1, k2, by rw [← hf.1]; exact k3, fun k ds hy => ?_, fun k j ds c hy hc => ?_⟩
    · obtain ⟨cs, h1, h2, h3⟩ := hget hy
      rw [← k4 k cs h1, ← (frzL_sound hs h2).1]
      exact h3.spec.1.symm
    · obtain ⟨cs, h1, h2, h3⟩ := hget hy
      obtain ⟨d, h4, h5⟩ := h3.spec.2 j c hc
      have hjl : j < cs.length := by
        have := (List.getElem?_eq_some_iff.1 h4).1
        rwa [(frzL_sound hs h2).1] at this
      let ws : Array Value := ((List.range cs.length).map fun j => vs.getD (k * e + j) undef).toArray
      have hws : ∀ j, j < cs.length → ws.getD j undef = vs.getD (k * e + j) undef := fun j hj => by
        simp [ws, Array.getD, hj]
      have h6 := (frzL_sound hs h2).2 ws (fun i a ha => by
        have hi : i < cs.length := (List.getElem?_eq_some_iff.1 ha).1
        rw [hws i hi]; exact k5 k i cs a h1 ha) j d h4
      rw [hws j hjl] at h6
      exact h5 _ _ _ h6
theorem EC.closeR {f : Nat} {args : List SV} {B0 : List Own} {Q : SV → List Own → Prop}
    (h : EC P f args B0 fun r B' => frzKT (fromM 1) B' r ∧ ∃ h0 E e xs ys, getD' B' 0 = .row h0 E e xs ∧ FR B' xs ys ∧ Q (frzT (fromM 1) B' r) [.row h0 E e ys]) : EC P f args B0 Q := by
  refine ⟨h.1, fun X w vs hs hd => (h.2 X w vs hs hd).mono ?_⟩
  rintro ex w' ⟨v, r, X', B', he, ⟨hk, h0, E, e, xs, ys, hB, hf, hq⟩, h1, h2, h3⟩
  have hB0 : B' ≠ [] := fun e => by rw [e] at hB; simp [getD'] at hB
  have ht : B'.take 1 = [.row h0 E e xs] := by
    cases B' with
    | nil => exact absurd rfl hB0
    | cons o B' => simp [getD'] at hB; simp [hB]
  have hb : ∀ i, getD' [Own.row h0 E e xs] i = if fromM 1 i then .gone else getD' B' i := fun i => by
    rw [← ht, getD'_take]
    by_cases hi : i < 1
    · have : fromM 1 i = false := by simp [fromM]; omega
      simp [hi, this]
    · have : fromM 1 i = true := by simp [fromM]; omega
      simp [hi, this]
  have hs1 := h1.drop_sel hb
  have hbl : ∀ i, (getD' [Own.row h0 E e ys] i).blocks = (getD' [Own.row h0 E e xs] i).blocks := fun i => by
    cases i with
    | zero => cases h0 <;> rfl
    | succ i => rfl
  have hown : ∀ b, owns [Own.row h0 E e ys] b ↔ owns [Own.row h0 E e xs] b := fun b => ⟨fun ⟨i, h'⟩ => ⟨i, by rwa [hbl] at h'⟩, fun ⟨i, h'⟩ => ⟨i, by rwa [hbl]⟩⟩
  have hs2 : Sat (withSel X' B' (fromM 1)) w' [Own.row h0 E e ys] := ⟨fun a b' c h2 h3 => hs1.inj a b' c (by rwa [hbl] at h2) (by rwa [hbl] at h3), fun a b' h2 => hs1.lt a b' (by rwa [hbl] at h2), hs1.xg, fun b' hx' ho => hs1.apart b' hx' ((hown b').1 ho), fun a => by
    cases a with
    | zero => exact Own.ok_frz h1 hB hf
    | succ a => trivial⟩
  have hx2 : Ext X' w' B' (withSel X' B' (fromM 1)) w' [Own.row h0 E e ys] := by
    have := Ext.drop_sel (X := X') (w := w') hb
    exact ⟨rfl, rfl, rfl, Nat.le_refl _, fun _ _ _ => rfl, this.xin, this.xout, fun b hb => this.own b ((hown b).1 hb)⟩
  exact ⟨v, _, _, _, he, hq, hs2, frzT_sound h1 h2 hk, h3.trans hx2⟩
end
end Go.Proofs.YtfmldmafigpblaaGreatDoor
end
section
namespace Go.Proofs.YtfmldmafigpblaaGreatDoor
open Go.Lift
set_option linter.unusedSimpArgs false
set_option linter.unusedVariables false
set_option maxRecDepth 10000
def Lk (m : Nat) (B : List Own) (s r : SV) : Prop := frzKT (fromM m) B s ∧ SLe (frzT (fromM m) B s) r
def FkA (m : Nat) (B : List Own) (s r : SV) : Prop := frzKA (fromM m) B s ∧ SLe (frzA (fromM m) B s) r
section
variable {P : Program} {E : Env} {n : Nat} {k : Kn} {t : Slots} {B : List Own} {all rest : List Oper} {m : Nat}
theorem EC.finKE {f : Nat} {args : List SV} {B0 : List Own} {σ : Type} {C : σ → Prop} {R : σ → SV} {X : σ → List (List SV)} {hh : RowH} {E e : Nat}
    (h : EC P f args B0 fun r B' => ∃ x, C x ∧ Lk 1 B' r (R x) ∧ B'.take 1 = [.row hh E e (X x)]) : EC P f args B0 fun r N => ∃ x, C x ∧ r = R x ∧ N = [.row hh E e (X x)] :=
  EC.finE (h.mono fun r B' ⟨x, h1, h2, h3⟩ => ⟨h2.1, x, h1, h2.2, h3⟩)
theorem Lk.int {kk : IntKind} {p q : Int} (h : p = q) : Lk m B (.int kk p) (.int kk q) := by subst h; exact ⟨trivial, SLe.refl _⟩
theorem Lk.bool {p q : Bool} (h : p = q) : Lk m B (.bool p) (.bool q) := by subst h; exact ⟨trivial, SLe.refl _⟩
theorem Lk.t0 : Lk m B (.tup []) (.tup []) := ⟨trivial, SLe.refl _⟩
theorem Lk.t2 {a b c d : SV} (h1 : FkA m B a c) (h2 : FkA m B b d) : Lk m B (.tup [a, b]) (.tup [c, d]) := ⟨⟨h1.1, h2.1, trivial⟩, SLe.tup (.cons h1.2 (.cons h2.2 .nil))⟩
theorem Lk.t3 {a b c a' b' c' : SV} (h1 : FkA m B a a') (h2 : FkA m B b b') (h3 : FkA m B c c') : Lk m B (.tup [a, b, c]) (.tup [a', b', c']) := ⟨⟨h1.1, h2.1, h3.1, trivial⟩, SLe.tup (.cons h1.2 (.cons h2.2 (.cons h3.2 .nil)))⟩
theorem Lk.t4 {a b c d a' b' c' d' : SV} (h1 : FkA m B a a') (h2 : FkA m B b b') (h3 : FkA m B c c') (h4 : FkA m B d d') : Lk m B (.tup [a, b, c, d]) (.tup [a', b', c', d']) := ⟨⟨h1.1, h2.1, h3.1, h4.1, trivial⟩, SLe.tup (.cons h1.2 (.cons h2.2 (.cons h3.2 (.cons h4.2 .nil))))⟩
theorem FkA.int {kk : IntKind} {p q : Int} (h : p = q) : FkA m B (.int kk p) (.int kk q) := by subst h; exact ⟨trivial, SLe.refl _⟩
theorem FkA.bool {p q : Bool} (h : p = q) : FkA m B (.bool p) (.bool q) := by subst h; exact ⟨trivial, SLe.refl _⟩
theorem FkA.str {p q : List UInt8} (h : p = q) : FkA m B (.str p) (.str q) := by subst h; exact ⟨trivial, SLe.refl _⟩
theorem FkA.agg {cs ds : List SV} (hk : frzKL (fromM m) B cs) (h : LLe (frzL (fromM m) B cs) ds) : FkA m B (.agg cs) (.agg ds) := ⟨hk, SLe.agg h⟩
theorem FkA.aggO {x y : GObject} (h : x = y) : FkA m B (.agg x.c) (.agg y.c) := by subst h; exact FkA.agg (by rw [GObject.fk]; trivial) (by rw [GObject.fz]; exact LLe.refl _)
theorem FkA.aggN {x y : GName} (h : x = y) : FkA m B (.agg x.c) (.agg y.c) := by subst h; exact FkA.agg (by rw [GName.fk]; trivial) (by rw [GName.fz]; exact LLe.refl _)
theorem Lk.aggO {x y : GObject} (h : x = y) : Lk m B (.agg x.c) (.agg y.c) := by
  subst h
  exact ⟨by show frzKL _ _ _; rw [GObject.fk]; trivial, SLe.agg (by rw [GObject.fz]; exact LLe.refl _)⟩
end
attribute [local irreducible] EC EV
def getS (s : GStore) (id : Int) : GObject × Bool := match s.Objects.find? (fun o => o.ID == id) with
  | some o => (o, true)
  | none => (default, false)
def r2g (x : GObject × Bool) : SV := .tup [.agg x.1.c, .bool x.2]
attribute [push_cast] r2g
theorem getS_no {s : GStore} {id : Int} (h : ∀ o ∈ s.Objects, o.ID ≠ id) : getS s id = (default, false) := by
  have : s.Objects.find? (fun o => o.ID == id) = none := List.find?_eq_none.2 fun o ho => by simpa using h o ho
  simp only [getS, this]
theorem getS_yes {s : GStore} {id : Int} {i : Nat} (hi : i < s.Objects.length) (h : ∀ k, k < i → (s.Objects.getD k default).ID ≠ id) (he : (s.Objects.getD i default).ID = id) : getS s id = (s.Objects.getD i default, true) := by
  have e : s.Objects.getD i default = s.Objects[i] := by simp [List.getD, hi]
  have : s.Objects.find? (fun o => o.ID == id) = some (s.Objects.getD i default) := by
    rw [List.find?_eq_some_iff_getElem]
    refine ⟨by simpa using he, i, hi, e.symm, fun j hj => ?_⟩
    have := h j hj
    have hjl : j < s.Objects.length := by omega
    simp [List.getD, hjl] at this
    simpa using this
  simp only [getS, this]
theorem getS_mem {s : GStore} {id : Int} : (getS s id).1 = default ∨ (getS s id).1 ∈ s.Objects := by
  unfold getS
  split
  · rename_i h; exact .inr (List.mem_of_find?_eq_some h)
  · exact .inl rfl
theorem ec_ref18_Get (s : GStore) (id : Int) (hs : s.Objects.length ≤ 1000000) : EC Tryz.prog 103 [.agg s.c, .int .u64 id] [] fun r N => N = [] ∧ r = r2g (getS s id) := by
  refine EC.finK ?_
  (refine nK E_ok call_103 Tryz.func103 Tryz.ntmps103 Tryz.results103 ?_)
  intro fr
  refine EV_loopK E_ok [1, 4, 5, 9, 10] (fun i : Nat => [(11, .int .i64 i)]) (fun B _ => B) (fun i => i ≤ s.Objects.length ∧ ∀ k, k < i → (s.Objects.getD k default).ID ≠ id) (fun i => s.Objects.length - i) 0 ⟨Nat.zero_le _, fun k hk => absurd hk (Nat.not_lt_zero k)⟩ ?_
  rintro i ⟨hi, hx⟩
  have hw : IntKind.i64.wrap ((i : Int) + 1) = ((i + 1 : Nat) : Int) := by rw [i64_in' (by omega)]; omega
  simp only [hw, push_cast, simprocAttr]
  refine ⟨fun h => ?_, fun h => ?_⟩
  · have hlt : i < s.Objects.length := by simpa using h
    intro fr2
    refine ⟨⟨by omega, by omega⟩, fun e => ?_, fun e => ?_⟩
    · rw [getS_yes hlt hx (by simpa using e)]
      (repeat' (first | refine eK E_ok ?_ | refine zL ?_ | apply Lt.t2 | apply Lt.t3 | apply Lt.t4 | apply Lt.aggE | apply FzA.aggE | (with_reducible intro _) | with_reducible apply And.intro | exact trivial)) <;> (first | exact zA | exact ([] : List Own) | skip)
    · refine NX_mk (i + 1) ⟨by omega, fun k hk => ?_⟩
      rcases Nat.lt_or_ge k i with h1 | h1
      · exact hx k h1
      · have : k = i := by omega
        subst this; simpa using e
  · have e : i = s.Objects.length := by simp at h; omega
    subst e
    rw [getS_no fun o ho => by
      obtain ⟨k, hk, rfl⟩ := List.mem_iff_getElem.1 ho
      have := hx k hk
      simpa [List.getD, hk] using this]
    (repeat' (first | refine eK E_ok ?_ | refine zL ?_ | apply Lt.t2 | apply Lt.t3 | apply Lt.t4 | apply Lt.aggE | apply FzA.aggE | (with_reducible intro _) | with_reducible apply And.intro | exact trivial)) <;> (first | exact zA | exact ([] : List Own) | skip)
def insO (l : List GObject) (o : GObject) : List GObject :=
  if l.any (fun y => y.ID == o.ID) then l.set (l.findIdx fun y => y.ID == o.ID) o else l.takeWhile (fun y => decide (y.ID < o.ID)) ++ o :: l.dropWhile (fun y => decide (y.ID < o.ID))
def putS (s : GStore) (o : GObject) : GStore × Int := if (o.ID == 0) = true then (default, 1) else ({ Objects := insO s.Objects o }, 0)
def r2st (x : GStore × Int) : SV := .tup [.agg x.1.c, .int .i64 x.2]
attribute [push_cast] r2st
theorem insO_mem {l : List GObject} {o y : GObject} (h : y ∈ insO l o) : y ∈ l ∨ y = o := by
  unfold insO at h
  split at h
  · exact (List.mem_or_eq_of_mem_set h)
  · rcases List.mem_append.1 h with h | h
    · exact .inl (List.takeWhile_prefix _ |>.subset h)
    · rcases List.mem_cons.1 h with h | h
      · exact .inr h
      · exact .inl (List.dropWhile_suffix _ |>.subset h)
theorem insO_len (l : List GObject) (o : GObject) : (insO l o).length ≤ l.length + 1 := by
  unfold insO
  split
  · simp
  · have := congrArg List.length (List.takeWhile_append_dropWhile (p := fun y : GObject => decide (y.ID < o.ID)) (l := l))
    simp only [List.length_append, List.length_cons] at this ⊢
    omega
theorem insO_set {l : List GObject} {o : GObject} {i : Nat} (hi : i < l.length) (h : ∀ k, k < i → (l.getD k default).ID ≠ o.ID) (he : (l.getD i default).ID = o.ID) : insO l o = l.set i o := by
  have e : l.getD i default = l[i] := by simp [List.getD, hi]
  have h1 : l.any (fun y => y.ID == o.ID) = true := List.any_eq_true.2 ⟨l[i], List.getElem_mem hi, by rw [← e]; simpa using he⟩
  have h2 : l.findIdx (fun y => y.ID == o.ID) = i := by
    rw [List.findIdx_eq hi]
    refine ⟨by rw [← e]; simpa using he, fun j hj => ?_⟩
    have := h j hj
    have hjl : j < l.length := by omega
    simp [List.getD, hjl] at this
    simpa using this
  rw [insO, if_pos h1, h2]
theorem insO_ins {l : List GObject} {o : GObject} {k : Nat} (hk : k ≤ l.length) (hn : ∀ j, j < l.length → (l.getD j default).ID ≠ o.ID) (h : ∀ j, j < k → (l.getD j default).ID < o.ID) (he : k < l.length → ¬ (l.getD k default).ID < o.ID) : insO l o = l.take k ++ o :: l.drop k := by
  have h1 : ¬ l.any (fun y => y.ID == o.ID) = true := by
    rw [List.any_eq_true]
    rintro ⟨x, hx, h2⟩
    obtain ⟨j, hj, rfl⟩ := List.mem_iff_getElem.1 hx
    have := hn j hj
    simp [List.getD, hj] at this
    simp at h2; exact this h2
  have h3 : l.takeWhile (fun y => decide (y.ID < o.ID)) = l.take k := by
    rw [← List.take_append_drop k l, List.takeWhile_append_of_pos]
    · rw [List.take_append_drop]
      cases hd : l.drop k with
      | nil => simp
      | cons a r =>
        have hkl : k < l.length := by
          have := congrArg List.length hd; simp at this; omega
        have ha : a = l[k] := by
          have := congrArg (fun l => l.head?) hd
          simp [List.head?_drop, hkl] at this
          exact this.symm
        have := he hkl
        simp [List.getD, hkl] at this
        rw [List.takeWhile_cons_of_neg (by rw [ha]; simp; exact this)]
        simp
    · intro x hx
      obtain ⟨j, hj, rfl⟩ := List.mem_take_iff_getElem.1 hx
      have := h j (by omega)
      have hjl : j < l.length := by omega
      simp [List.getD, hjl] at this
      simpa using this
  have h4 : l.dropWhile (fun y => decide (y.ID < o.ID)) = l.drop k := by
    have h5 := List.takeWhile_append_dropWhile (p := fun y : GObject => decide (y.ID < o.ID)) (l := l)
    rw [h3] at h5
    have h6 : l.take k ++ l.dropWhile (fun y => decide (y.ID < o.ID)) = l.take k ++ l.drop k := by rw [h5, List.take_append_drop]
    exact List.append_cancel_left h6
  rw [insO, if_neg h1, h3, h4]
theorem FzA.st {B : List Own} {i n E : Nat} {h : RowH} {xs : List (List SV)} {l : List GObject} (hB : getD' B i = .row h E 36 xs) (hx : xs = l.map GObject.c) (hn : n = l.length) : FzA B (.agg [.row i h 36 0 n]) (.agg (GStore.mk l).c) :=
  FzA.agg ((FzL.obj (cs := (GStore.mk []).c) (fun s B => by rw [GStore.fk]) (fun s B => by rw [GStore.fz])).put 0 (FzC.row hB hx hn) (GStore.p0 _ _))
theorem ec_ref18_Put (s : GStore) (o : GObject) (hs : s.Objects.length ≤ 1000000) : EC Tryz.prog 96 [.agg s.c, .agg o.c] [] fun r N => N = [] ∧ r = r2st (putS s o) := by
  refine EC.finK ?_
  (refine nK E_ok call_96 Tryz.func96 Tryz.ntmps96 Tryz.results96 ?_)
  intro fr
  refine ⟨fun h => ?_, fun h => ?_⟩
  · (repeat' (first | refine eK E_ok ?_ | refine zL ?_ | apply Lt.t2 | apply Lt.t3 | apply Lt.t4 | apply Lt.aggE | apply FzA.aggE | (with_reducible intro _) | with_reducible apply And.intro | exact trivial)) <;> (first | exact zA | exact ([] : List Own) | (simp [putS, *]; done) | (simp_all [putS]; done) | skip)
  rw [show putS s o = ({ Objects := insO s.Objects o }, 0) by unfold putS; rw [if_neg (by rw [h]; simp)]]
  intro fr2
  refine ⟨by omega, ?_⟩
  refine EV_loopK E_ok [3, 4, 5, 6, 17] (fun i : Nat => [(18, .int .i64 i)]) (fun B _ => B) (fun i => i ≤ s.Objects.length ∧ ∀ k, k < i → (s.Objects.getD k default).ID ≠ o.ID) (fun i => s.Objects.length - i) 0 ⟨Nat.zero_le _, fun k hk => absurd hk (Nat.not_lt_zero k)⟩ ?_
  rintro i ⟨hi, hx⟩
  have hw : IntKind.i64.wrap ((i : Int) + 1) = ((i + 1 : Nat) : Int) := by rw [i64_in' (by omega)]; omega
  simp only [hw, push_cast, simprocAttr]
  refine ⟨fun h => ?_, fun h => ?_⟩
  · have hlt : i < s.Objects.length := by omega
    (refine dD E_ok [] [false, false, false, false] [0, 1, 2, 3, 4, 5, 6, 7] fol fun R hR => ?_; (repeat intro rh); (try refine sB ⟨?_⟩); (repeat ((with_reducible apply And.intro); exact sdB)); (repeat intro rh); (repeat ((with_reducible apply And.intro); exact sdB)); (try apply_assumption -exfalso))
    simp only [push_cast, simprocAttr]
    refine ⟨fun g => ⟨⟨by omega, by omega⟩, by omega, ?_⟩, fun g => ?_⟩
    · have hq : (List.map GObject.c s.Objects).set i (putL ((List.map GObject.c s.Objects).getD i []) 0 o.c) = (insO s.Objects o).map GObject.c := by
        rw [insO_set hlt hx (by simpa using g), List.map_set, show putL ((List.map GObject.c s.Objects).getD i []) 0 o.c = o.c by rw [show (List.map GObject.c s.Objects).getD i [] = GObject.c s.Objects[i] by simp [List.getD, hlt], putO (GObject.len o)]]
      rw [hq]
      have hl : s.Objects.length = (insO s.Objects o).length := by rw [insO_set hlt hx (by simpa using g)]; simp
      exact Lt.t2 (FzA.st rfl rfl hl) FzA.int
    · simp only [hw, push_cast, simprocAttr]
      refine NX_mk (i + 1) ⟨by omega, fun k hk => ?_⟩
      rcases Nat.lt_or_ge k i with h1 | h1
      · exact hx k h1
      · have : k = i := by omega
        subst this; simpa using g
  · have e : i = s.Objects.length := by simp at h; omega
    subst e
    refine EV_frzRow 6 3 (cells := GObject.c) (df := default) (l := s.Objects) rfl rfl rfl rfl ?_
    simp only [List.set]
    refine EV_loopK E_ok [3, 4, 5, 6] (fun k : Nat => [(8, .int .i64 k)]) (fun B _ => B) (fun k => k ≤ s.Objects.length ∧ ∀ j, j < k → (s.Objects.getD j default).ID < o.ID) (fun k => s.Objects.length - k) 0 ⟨Nat.zero_le _, fun k hk => absurd hk (Nat.not_lt_zero k)⟩ ?_
    rintro k ⟨hk, hy⟩
    have hw : IntKind.i64.wrap ((k : Int) + 1) = ((k + 1 : Nat) : Int) := by rw [i64_in' (by omega)]; omega
    simp only [hw, push_cast, simprocAttr]
    (refine dD E_ok [] [false, false, false, false] [0, 1, 2, 3, 4, 5, 6, 7, 8, 9, 10, 11, 12, 13] fol fun R hR => ?_; (repeat intro rh); (try refine sB ⟨?_⟩); (repeat ((with_reducible apply And.intro); exact sdB)); (repeat intro rh); (repeat ((with_reducible apply And.intro); exact sdB)); (try apply_assumption -exfalso))
    simp only [push_cast, simprocAttr]
    refine ⟨fun g => ?_, fun g => ?_⟩
    · have g' : k < s.Objects.length ∧ (s.Objects.getD k default).ID < o.ID := by simpa using g
      simp only [hw, push_cast, simprocAttr]
      refine NX_mk (k + 1) ⟨by omega, fun j hj => ?_⟩
      rcases Nat.lt_or_ge j k with h1 | h1
      · exact hy j h1
      · have : j = k := by omega
        subst this
        exact g'.2
    · have he : k < s.Objects.length → ¬ (s.Objects.getD k default).ID < o.ID := by simpa using g
      have htk : (s.Objects.take k).length ≤ 1000000 := by simp; omega
      have hdk : (s.Objects.drop k).length ≤ 1000000 := by simp; omega
      have hins := insO_ins hk hx hy he
      rw [hins]
      have hrow : List.take ((s.Objects.take k).length + 1) (List.map GObject.c (s.Objects.take k) ++ [o.c]) ++ List.map (elt GObject.c default (s.Objects.drop k)) (List.range (s.Objects.length - k)) = (s.Objects.take k ++ o :: s.Objects.drop k).map GObject.c := by
        rw [List.take_of_length_le (by simp), show s.Objects.length - k = (s.Objects.drop k).length by simp, show List.map (elt GObject.c default (s.Objects.drop k)) (List.range (s.Objects.drop k).length) = (s.Objects.drop k).map GObject.c from rangeD GObject.c default _]
        simp
      have hrl : (s.Objects.take k).length + 1 + (List.range (s.Objects.length - k)).length = (s.Objects.take k ++ o :: s.Objects.drop k).length := by simp; omega
      have hsz : (s.Objects.take k ++ o :: s.Objects.drop k).length ≤ 1000001 := by simp; omega
      (refine dW E_ok 7 [false, false, true, false] [0, 1, 2, 4, 7, 8, 9] fol fun R hR => ?_; (try refine sB ⟨?_⟩); (repeat ((with_reducible apply And.intro); exact sdB)))
      refine ed2 E_ok 3 5 ?_ ?_
      · (intro rh; (repeat ((with_reducible apply And.intro); exact sdB)); refine dR E_ok [5, 6, 10, 11, 12, 13] ?_; (repeat ((with_reducible apply And.intro); exact sdB)))
        simp only [hrow, hrl]
        intro h1 h2
        refine ⟨by omega, fun h3 => ⟨by omega, ?_⟩⟩
        refine hR _ _ ?_
        simp only [push_cast, simprocAttr]
        exact Lt.t2 (FzA.st rfl rfl (by simp)) FzA.int
      · (intro rh; (repeat ((with_reducible apply And.intro); exact sdB)); refine dR E_ok [3, 6, 10, 11, 12, 13] ?_; (repeat ((with_reducible apply And.intro); exact sdB)))
        simp only [hrow, hrl]
        intro h1
        refine ⟨by omega, fun h2 => ⟨by omega, fun h3 => ⟨by omega, ?_⟩⟩⟩
        refine hR _ _ ?_
        simp only [push_cast, simprocAttr]
        exact Lt.t2 (FzA.st rfl rfl (by simp)) FzA.int
def rmvO (id : Int) : List GObject → List GObject
  | [] => []
  | o :: r => if (o.ID == id) = true then r else o :: rmvO id r
def remS (s : GStore) (id : Int) : GStore × Bool := ({ Objects := rmvO id s.Objects }, s.Objects.any fun o => o.ID == id)
def r2rm (x : GStore × Bool) : SV := .tup [.agg x.1.c, .bool x.2]
attribute [push_cast] r2rm
theorem rmvO_mem {id : Int} {y : GObject} : ∀ {l : List GObject}, y ∈ rmvO id l → y ∈ l
  | [], h => h
  | o :: r, h => by
    rw [rmvO] at h
    split at h
    · exact List.mem_cons_of_mem _ h
    · rcases List.mem_cons.1 h with h | h
      · rw [h]; exact List.mem_cons_self
      · exact List.mem_cons_of_mem _ (rmvO_mem h)
theorem rmvO_len (id : Int) : ∀ l : List GObject, (rmvO id l).length ≤ l.length
  | [] => Nat.le_refl _
  | o :: r => by
    rw [rmvO]
    split
    · simp
    · have := rmvO_len id r; simp; omega
theorem rmvO_snoc (id : Int) (x : GObject) : ∀ l : List GObject, rmvO id (l ++ [x]) = if l.any (fun o => o.ID == id) = true then rmvO id l ++ [x] else if (x.ID == id) = true then l else l ++ [x]
  | [] => by simp [rmvO]
  | o :: r => by
    rw [List.cons_append, rmvO, rmvO, List.any_cons, rmvO_snoc id x r]
    by_cases h : (o.ID == id) = true
    · simp [h]
    · have h' : (o.ID == id) = false := by simpa using h
      simp only [h', Bool.false_or, if_neg h, Bool.false_eq_true, if_false]
      by_cases h1 : (r.any fun o => o.ID == id) = true
      · simp [h1]
      · by_cases h2 : (x.ID == id) = true
        · simp [h1, h2]
        · simp [h1, h2]
theorem rmvO_none {id : Int} : ∀ {l : List GObject}, ¬ (l.any fun o => o.ID == id) = true → rmvO id l = l
  | [], _ => rfl
  | o :: r, h => by
    rw [List.any_cons, Bool.or_eq_true, not_or] at h
    rw [rmvO, if_neg h.1, rmvO_none h.2]
def nlS : SV := .sl true 0 0 fun _ => []
def E4 : Env := { E with zr := fun T => if T = 46 then [nlS] else E.zr T }
theorem E4_ok : EnvOK Tryz.prog E4 := ⟨E_ok.ty, fun T h => by
  simp only [E4] at h ⊢
  split
  · rename_i e; subst e; kernel_rfl
  · rename_i e; simp only [e, if_false] at h; exact E_ok.zr T h, E_ok.lv⟩
theorem E4_ty (T : Nat) : E4.ty T = E.ty T := rfl
theorem E4_lv (T : Nat) : E4.lv T = E.lv T := rfl
theorem E4_kp : E4.kp = E.kp := rfl
theorem E4_zr : E4.zr 46 = [nlS] := rfl
theorem E4_zrO : E4.zr 41 = E.zr 41 := rfl
theorem nilS_sol : solids [nlS] = true := rfl
attribute [push_cast] E4_ty E4_lv E4_kp E4_zr E4_zrO nilS_sol
theorem ec_ref18_Remove (s : GStore) (id : Int) (hs : s.Objects.length ≤ 1000000) : EC Tryz.prog 130 [.agg s.c, .int .u64 id] [] fun r N => N = [] ∧ r = r2rm (remS s id) := by
  refine EC.finK ?_
  (refine nK E4_ok call_130 Tryz.func130 Tryz.ntmps130 Tryz.results130 ?_)
  intro fr
  intro fr1
  refine EV_matrC 2 0 0 41 36 (by simp) rfl rfl rfl ?_
  intro hh
  simp only [List.set_cons_succ, List.set_cons_zero, List.length_cons, List.length_nil, List.cons_append, List.nil_append, Nat.zero_add, Nat.reduceAdd]
  refine EV_loopK E4_ok [1, 4, 5, 6, 11, 12] (fun x : Nat × Bool × List GObject × RowH => [(13, .int .i64 x.1), (7, .bool x.2.1)]) (fun B x => updH (updX B 2 [[.row 3 x.2.2.2 36 0 x.2.2.1.length]]) 3 x.2.2.2 (x.2.2.1.map GObject.c)) (fun x => x.1 ≤ s.Objects.length ∧ x.2.1 = ((s.Objects.take x.1).any fun o => o.ID == id) ∧ x.2.2.1 = rmvO id (s.Objects.take x.1)) (fun x => s.Objects.length - x.1) (0, false, [], hh) ⟨Nat.zero_le _, rfl, rfl⟩ ?_
  rintro ⟨i, f, m, hr⟩ ⟨hi, hf, hm⟩
  replace hi : i ≤ s.Objects.length := hi
  replace hf : f = ((s.Objects.take i).any fun o => o.ID == id) := hf
  replace hm : m = rmvO id (s.Objects.take i) := hm
  have hml : m.length ≤ i := by rw [hm]; exact Nat.le_trans (rmvO_len _ _) (by simp; omega)
  have hw : IntKind.i64.wrap ((i : Int) + 1) = ((i + 1 : Nat) : Int) := by rw [i64_in' (by omega)]; omega
  simp only [hw, push_cast, simprocAttr]
  have hsc : i < s.Objects.length → s.Objects.take (i + 1) = s.Objects.take i ++ [s.Objects.getD i default] := fun hlt => by
    rw [List.take_succ_eq_append_getElem hlt]; simp [List.getD, hlt]
  refine ⟨fun h fr2 => ⟨⟨by omega, h⟩, fun g => ?_, fun g fr3 => ⟨by omega, ?_⟩⟩, fun h => ?_⟩
  · refine NX_mk (i + 1, true, m, hr) ⟨by show i + 1 ≤ _; omega, ?_, ?_⟩
    · show true = ((s.Objects.take (i + 1)).any fun o => o.ID == id)
      simp at g
      rw [hsc (by omega), List.any_append]; simp [g.1]
    · show m = rmvO id (s.Objects.take (i + 1))
      simp only [Bool.and_eq_true, Bool.not_eq_true'] at g
      rw [hsc (by omega), rmvO_snoc, if_neg (by rw [← hf, g.2]; simp), if_pos g.1, hm]
      exact rmvO_none (by rw [← hf, g.2]; simp)
  · rw [show List.map GObject.c m ++ [(s.Objects.getD i default).c] = List.map GObject.c (m ++ [s.Objects.getD i default]) by simp]
    rw [show m.length + 1 = (m ++ [s.Objects.getD i default]).length by simp]
    refine NX_mk (i + 1, f, m ++ [s.Objects.getD i default], fr3 4) ⟨by show i + 1 ≤ _; omega, ?_, ?_⟩
    · show f = ((s.Objects.take (i + 1)).any fun o => o.ID == id)
      rw [hsc (by omega), List.any_append, ← hf]
      cases f with
      | true => rfl
      | false => simpa using g
    · show m ++ _ = rmvO id (s.Objects.take (i + 1))
      rw [hsc (by omega), rmvO_snoc, hm]
      by_cases h1 : ((s.Objects.take i).any fun o => o.ID == id) = true
      · rw [if_pos h1]
      · have h2 : f = false := by rw [hf]; simpa using h1
        rw [h2] at g
        rw [if_neg h1, if_neg (by simpa using g), rmvO_none h1]
  · have e : i = s.Objects.length := by simp at h; omega
    rw [e, List.take_length] at hm hf
    exact Lt.t2 (FzA.st rfl (by rw [hm]) (by rw [hm])) (FzA.boolE hf)
def okS (I D : Int → Prop) (s : GStore) : Prop := ∀ o ∈ s.Objects, okO I D o
theorem okS.mono {I J D : Int → Prop} {s : GStore} (h : okS I D s) (hj : ∀ x, I x → J x) : okS J D s := fun o ho => (h o ho).mono hj
theorem okS.get {I D : Int → Prop} {s : GStore} {id : Int} (h : okS I D s) (h0 : I 0) : okO I D (getS s id).1 := (getS_mem (s := s) (id := id)).elim (fun e => by rw [e]; exact okO_def h0) (fun hm => h _ hm)
theorem okS.put {I D : Int → Prop} {s : GStore} {o : GObject} (h : okS I D s) (ho : okO I D o) : okS I D (putS s o).1 := by
  unfold putS
  split
  · intro o ho; cases ho
  · intro y hy
    rcases insO_mem hy with hy | rfl
    · exact h y hy
    · exact ho
theorem okS.rem {I D : Int → Prop} {s : GStore} {id : Int} (h : okS I D s) : okS I D (remS s id).1 := fun o ho => h o (rmvO_mem ho)
theorem putS_len (s : GStore) (o : GObject) : (putS s o).1.Objects.length ≤ s.Objects.length + 1 := by
  unfold putS
  split
  · exact Nat.zero_le _
  · exact insO_len _ _
theorem remS_len (s : GStore) (id : Int) : (remS s id).1.Objects.length ≤ s.Objects.length := rmvO_len _ _
end Go.Proofs.YtfmldmafigpblaaGreatDoor
end
section
namespace Go.Proofs.YtfmldmafigpblaaGreatDoor
open Go.Lift
set_option linter.unusedSimpArgs false
set_option linter.unusedVariables false
set_option maxRecDepth 10000
attribute [local irreducible] EC EV
def freshA (o : GObject) (a : GAction) : Int :=
  if (a.Kind != 3) = true then 0 else if (a.Number == 3) = true then 1 + ((spPriv o.Process.Pages).length : Int)
  else if (a.Number == 7) = true then (if (a.Args.x1 == 1) = true then 2 else 1)
  else if (a.Number == 13 || a.Number == 17 || a.Number == 18 || a.Number == 23) = true then 1
  else if (a.Number == 16) = true then (if (decide (1 ≤ a.Args.x1) && decide (a.Args.x1 ≤ 16)) = true then a.Args.x1 else 0) else 0
def actO (o : GObject) : GAction := (nextC o.Process.CPU o.Process.Program).2
def freshN (o : GObject) : Int := if (!prB o || o.Process.State != 1) = true then 0 else freshA o (actO o)
theorem spPriv_16 (l : List GPageRef) : (spPriv l).length ≤ 16 := by
  unfold spPriv
  split
  · simp
  · rename_i h
    have := spOk_len (l := l) (by simpa using h)
    rw [List.length_map]
    exact Nat.le_trans (List.length_filter_le ..) this
theorem freshN_rg (o : GObject) : 0 ≤ freshN o ∧ freshN o ≤ 17 := by
  have := spPriv_16 o.Process.Pages
  unfold freshN freshA
  repeat' split
  all_goals first | omega | (rename_i h; simp at h; omega)
theorem ec_ref19_Fresh (o : GObject) (ho : smallO o) (hp : pendO o) : EC Tryz.prog 105 [.agg o.c] [] fun r N => N = [] ∧ r = .int .i64 (freshN o) := by
  refine EC.finK ?_
  (refine nK E_ok call_105 Tryz.func105 Tryz.ntmps105 Tryz.results105 ?_)
  (repeat' (first | refine eK E_ok ?_ | refine EC.use (ec_ref16_Valid o ho hp) ?_ | refine EC.use (ec_ref05_Next _ _) ?_ | refine EC.use (ec_ref07_Private _ ho.1.2.2.2.1) ?_ | refine zL ?_ | apply Lt.t2 | apply Lt.t3 | apply Lt.t4 | apply Lt.aggE | apply FzA.aggE | (with_reducible intro _) | with_reducible apply And.intro | exact trivial)) <;> (first | exact zA | exact ([] : List Own) | (simp [freshN, freshA, actO, *]; done) | (simp_all [freshN, freshA, actO]; done) | skip)
  · rw [i64_in' (by have := spPriv_16 o.Process.Pages; omega)]
    simp only [freshN, freshA, actO, *, Bool.false_eq_true, if_false, if_true]
  · simp only [freshN, freshA, actO, *, Bool.false_eq_true, if_false, if_true, Bool.or_self]
    rename_i h
    exact (if_neg (fun e => absurd (e.symm.trans h) (by decide))).symm
end Go.Proofs.YtfmldmafigpblaaGreatDoor
end
section
namespace Go.Proofs.YtfmldmafigpblaaGreatDoor
open Go.Lift
set_option linter.unusedSimpArgs false
set_option linter.unusedVariables false
set_option maxRecDepth 10000
theorem ec_ref09_insertQ {Q : GName → Prop} (hQ : ∀ n, Q n → smallN n) (l : List GName) (n : GName) (hl : l.length ≤ 1000000) (hs : ∀ n ∈ l, Q n) (hn : Q n) : EC Tryz.prog 112 [slL 3 GName.c default l, .agg n.c] [] fun r N => N = [] ∧ ∃ x : List GName, (x.length ≤ 2 * l.length + 1 ∧ ∀ n ∈ x, Q n) ∧ r = slL 3 GName.c default x := by
  refine EC.finP (nA E_ok call_112 Tryz.func112 Tryz.ntmps112 Tryz.results112 ?_)
  (repeat (first | refine stepA ?_ | refine regA E_ok fun fr => ⟨?_⟩))
  refine EV_matr 5 70 3 rfl ?_
  intro hh
  simp only [List.length_cons, List.length_nil, List.cons_append, List.nil_append, Nat.zero_add]
  refine EV_loopB [0, 3, 8, 9] (fun s : Nat × List GName × RowH => [(10, .int .i64 s.1), (5, .row 1 s.2.2 3 0 s.2.1.length)]) (fun B s => updH B 1 s.2.2 (s.2.1.map GName.c)) (fun s => s.1 ≤ l.length ∧ s.2.1.length ≤ 2 * s.1 ∧ ∀ n ∈ s.2.1, Q n) (fun s => l.length - s.1) (0, [], hh) ⟨Nat.zero_le _, Nat.zero_le _, by simp⟩ ⟨rfl, rfl, trivial⟩ rfl ?_
  rintro ⟨i, m, hr⟩ ⟨i1, i2, i3⟩
  dsimp only at i1 i2 i3
  refine sK ?_
  have hm : m.length ≤ 2000000 := by omega
  (repeat (first | refine stepA ?_ | refine regA E_ok fun fr => ⟨?_⟩))
  (apply EV_cond; exact rfl; all_goals intro h)
  · have hlt : i < l.length := by simp at h; omega
    clear h
    (repeat (first | refine stepA ?_ | refine regA E_ok fun fr => ⟨?_⟩))
    rcases Nat.eq_zero_or_pos m.length with hz | hpos
    · rw [List.length_eq_zero_iff] at hz
      subst hz
      (refine dD E_ok [] [false, false, false] [0, 1, 2, 3, 4, 5, 6, 7, 8, 9, 10, 11, 12, 13, 14, 15, 16, 17, 18, 19, 20, 21] fol fun R hR => ?_; (repeat intro rh); (try refine sB ⟨?_⟩); (repeat ((with_reducible apply And.intro); exact sdB)); (repeat intro rh); (repeat ((with_reducible apply And.intro); exact sdB)); (try apply_assumption -exfalso))
      (repeat (first | refine stepA ?_ | refine regA E_ok fun fr => ⟨?_⟩))
      (apply EV_cond; exact rfl; all_goals intro h)
      · (repeat (first | refine stepA ?_ | refine regA E_ok fun fr => ⟨?_⟩))
        (try refine regA E_ok fun fr => ⟨?_⟩)
        (refine EC.use (ec_ref09_copied n (hQ _ hn)) ?_; (try simp only [hg]); refine gA E_ok fun fr => ⟨?_⟩)
        generalize fr 1 = h1
        (repeat (first | refine stepA ?_ | refine regA E_ok fun fr => ⟨?_⟩))
        (try refine regA E_ok fun fr => ⟨?_⟩)
        (refine EC.use (ec_ref09_copied _ (hQ _ (hs _ (getD_mem hlt)))) ?_; (try simp only [hg]); refine gA E_ok fun fr => ⟨?_⟩)
        generalize fr 1 = h2
        (repeat (first | refine stepA ?_ | refine regA E_ok fun fr => ⟨?_⟩))
        ((try refine sT ?_); first | refine nxA ((i + 1, [n, l.getD i default], h2)) ?_ ?_ | refine nxB ((i + 1, [n, l.getD i default], h2)) ?_ ?_)
        · refine ⟨hlt, by simp at i2 ⊢; omega, fun q hq => ?_⟩
          simp at hq
          rcases hq with rfl | rfl
          · exact hn
          · exact hs _ (getD_mem' hlt)
        · dsimp only; omega
      · clear h
        (repeat (first | refine stepA ?_ | refine regA E_ok fun fr => ⟨?_⟩))
        (try refine regA E_ok fun fr => ⟨?_⟩)
        (refine EC.use (ec_ref09_copied _ (hQ _ (hs _ (getD_mem hlt)))) ?_; (try simp only [hg]); refine gA E_ok fun fr => ⟨?_⟩)
        generalize fr 1 = h2
        (repeat (first | refine stepA ?_ | refine regA E_ok fun fr => ⟨?_⟩))
        ((try refine sT ?_); first | refine nxA ((i + 1, [l.getD i default], h2)) ?_ ?_ | refine nxB ((i + 1, [l.getD i default], h2)) ?_ ?_)
        · refine ⟨hlt, by simp at i2 ⊢; omega, fun q hq => ?_⟩
          simp at hq
          subst hq
          exact hs _ (getD_mem' hlt)
        · dsimp only; omega
    · have hne : ((m.length : Int) == 0) = false := by simp only [beq_eq_false_iff_ne, ne_eq]; omega
      have e1 : IntKind.i64.wrap ((m.length : Int) - 1) = (m.length : Int) - 1 := i64_in' (by omega)
      have e2 : ((m.length : Int) - 1).toNat < m.length := by omega
      (refine dD E_ok [] [false, false, false] [0, 1, 2, 3, 4, 5, 6, 7, 8, 9, 10, 11, 12, 13, 14, 15, 16, 17, 18, 19, 20, 21] fol fun R hR => ?_; (repeat intro rh); (try refine sB ⟨?_⟩); (repeat ((with_reducible apply And.intro); exact sdB)); (repeat intro rh); (repeat ((with_reducible apply And.intro); exact sdB)); (try apply_assumption -exfalso))
      simp only [hne, getD_map2 e2]
      simp only [push_cast, simprocAttr]
      (try refine ⟨fun hb => ⟨hb, by omega, by omega⟩, fun hb => ⟨hb, e2⟩, ?_⟩)
      (first | apply_assumption -exfalso | (try refine sT ?_))
      (repeat (first | refine stepA ?_ | refine regA E_ok fun fr => ⟨?_⟩))
      (apply EV_cond; exact rfl; all_goals intro h)
      · (repeat (first | refine stepA ?_ | refine regA E_ok fun fr => ⟨?_⟩))
        (try refine regA E_ok fun fr => ⟨?_⟩)
        (refine EC.use (ec_ref09_copied n (hQ _ hn)) ?_; (try simp only [hg]); refine gA E_ok fun fr => ⟨?_⟩)
        generalize fr 1 = h1
        obtain ⟨m1, e3⟩ : ∃ m1, m ++ [n] = m1 := ⟨_, rfl⟩
        have e4 : m.length + 1 = m1.length := by rw [← e3]; simp
        have e5 : List.map GName.c m ++ [n.c] = List.map GName.c m1 := by rw [← e3]; simp
        simp only [e4, e5]
        have hm1 : m1.length ≤ 2000001 := by omega
        (repeat (first | refine stepA ?_ | refine regA E_ok fun fr => ⟨?_⟩))
        (try refine regA E_ok fun fr => ⟨?_⟩)
        (refine EC.use (ec_ref09_copied _ (hQ _ (hs _ (getD_mem hlt)))) ?_; (try simp only [hg]); refine gA E_ok fun fr => ⟨?_⟩)
        generalize fr 1 = h2
        (repeat (first | refine stepA ?_ | refine regA E_ok fun fr => ⟨?_⟩))
        ((try refine sT ?_); first | refine nxA ((i + 1, m1 ++ [l.getD i default], h2)) ?_ ?_ | refine nxB ((i + 1, m1 ++ [l.getD i default], h2)) ?_ ?_)
        · refine ⟨hlt, by simp at i2 ⊢; omega, fun q hq => ?_⟩
          simp [← e3] at hq
          rcases hq with hq | rfl | rfl
          · exact i3 q hq
          · exact hn
          · exact hs _ (getD_mem' hlt)
        · dsimp only; omega
      · clear h
        (repeat (first | refine stepA ?_ | refine regA E_ok fun fr => ⟨?_⟩))
        (try refine regA E_ok fun fr => ⟨?_⟩)
        (refine EC.use (ec_ref09_copied _ (hQ _ (hs _ (getD_mem hlt)))) ?_; (try simp only [hg]); refine gA E_ok fun fr => ⟨?_⟩)
        generalize fr 1 = h2
        (repeat (first | refine stepA ?_ | refine regA E_ok fun fr => ⟨?_⟩))
        ((try refine sT ?_); first | refine nxA ((i + 1, m ++ [l.getD i default], h2)) ?_ ?_ | refine nxB ((i + 1, m ++ [l.getD i default], h2)) ?_ ?_)
        · refine ⟨hlt, by simp at i2 ⊢; omega, fun q hq => ?_⟩
          simp at hq
          rcases hq with hq | rfl
          · exact i3 q hq
          · exact hs _ (getD_mem' hlt)
        · dsimp only; omega
  · (repeat (first | refine stepA ?_ | refine regA E_ok fun fr => ⟨?_⟩))
    have hil : i = l.length := by simp at h; omega
    clear h
    (apply EV_cond; exact rfl; all_goals intro h)
    · (repeat (first | refine stepA ?_ | refine regA E_ok fun fr => ⟨?_⟩))
      (try refine regA E_ok fun fr => ⟨?_⟩)
      (refine EC.use (ec_ref09_copied n (hQ _ hn)) ?_; (try simp only [hg]); refine gA E_ok fun fr => ⟨?_⟩)
      generalize fr 1 = h1
      (repeat (first | refine stepA ?_ | refine regA E_ok fun fr => ⟨?_⟩))
      (try refine sC ?_)
      refine ⟨(fin_rowT (cells := GName.c) (d := default) (l := m ++ [n]) rfl (by simp) (by simp)).1, m ++ [n], ⟨by simp; omega, fun q hq => ?_⟩, (fin_rowT (cells := GName.c) (d := default) (l := m ++ [n]) rfl (by simp) (by simp)).2⟩
      simp at hq
      rcases hq with hq | rfl
      · exact i3 q hq
      · exact hn
    · (repeat (first | refine stepA ?_ | refine regA E_ok fun fr => ⟨?_⟩))
      (try refine sC ?_)
      exact ⟨(fin_rowT (cells := GName.c) (d := default) (l := m) rfl rfl rfl).1, m, ⟨by omega, i3⟩, (fin_rowT (cells := GName.c) (d := default) (l := m) rfl rfl rfl).2⟩
end Go.Proofs.YtfmldmafigpblaaGreatDoor
end
section
namespace Go.Proofs.YtfmldmafigpblaaGreatDoor
open Go.Lift
set_option linter.unusedSimpArgs false
set_option linter.unusedVariables false
set_option maxRecDepth 10000
attribute [local irreducible] EC EV
theorem FzA.aggN {B : List Own} {x y : GName} (h : x = y) : FzA B (.agg x.c) (.agg y.c) := by subst h; exact FzA.agg (FzL.obj (cs := x.c) (fun s B => by rw [GName.fk]) (fun s B => by rw [GName.fz]))
theorem LFz.nameC {m : Nat} {B : List Own} {o : GName} {r r' : List SV} (hr : LFz m B r r') : LFz m B (.agg o.c :: r) (.agg o.c :: r') := by
  refine .cons ?_ ?_ hr
  · simp only [frzKT, frzKA]; rw [GName.fk]; trivial
  · simp only [frzT, frzA]; rw [GName.fz]; exact SLe.refl _
theorem ec_ref09_ValidK (o : GObject) (ho : smallO o) : EC Tryz.prog 109 [.agg o.c] [] fun r N => N = [] ∧ ∃ b : Bool, (b = true → o.Names.length ≤ 256 ∧ o.Kind = 10) ∧ r = .bool b := by
  by_cases hl : o.Names.length ≤ 256 ∧ o.Kind = 10
  · exact (ec_ref09_Valid o ho.2.2.2.2.2.2.1 ho.2.2.2.2.2.2.2).mono fun r N ⟨h1, b, _, h2⟩ => ⟨h1, b, fun _ => hl, h2⟩
  · refine EC.finKP ?_
    (refine nK E_ok call_109 Tryz.func109 Tryz.ntmps109 Tryz.results109 ?_)
    intro fr
    refine ⟨fun h => ⟨false, by simp, Lt.bool rfl⟩, fun h => ?_⟩
    exfalso
    simp at h
    exact hl ⟨by omega, h.1.1⟩
theorem ec_ref09_FindK (o : GObject) (s : List UInt8) (ho : smallO o) : EC Tryz.prog 111 [.agg o.c, .str s] [] fun r N => N = [] ∧ ∃ x : GName × Bool, (x.2 = true → x.1 ∈ o.Names) ∧ r = .tup [.agg x.1.c, .bool x.2] := by
  refine EC.finKP ?_
  (refine nK E_ok call_111 Tryz.func111 Tryz.ntmps111 Tryz.results111 ?_)
  intro fr
  (refine EC.useP (ec_ref09_ValidK o ho) ?_; rintro b -; refine eK E_ok ?_)
  refine ⟨fun h => ⟨(default, false), by simp, Lt.t2 (FzA.aggN rfl) FzA.bool⟩, fun h => ?_⟩
  have hl := ho.2.2.2.2.2.2.1
  refine EV_loopK E_ok [1, 4, 5, 13, 14] (fun i : Nat => [(15, .int .i64 i)]) (fun B _ => B) (fun i => i ≤ o.Names.length) (fun i => o.Names.length - i) 0 (Nat.zero_le _) ?_
  rintro i hi
  replace hi : i ≤ o.Names.length := hi
  have hw : IntKind.i64.wrap ((i : Int) + 1) = ((i + 1 : Nat) : Int) := by rw [i64_in' (by omega)]; omega
  simp only [hw, push_cast, simprocAttr]
  refine ⟨fun h fr2 => ⟨⟨by omega, h⟩, fun g => ?_, fun g => NX_mk (i + 1) (by show i + 1 ≤ _; omega)⟩, fun h => ⟨(default, false), by simp, Lt.t2 (FzA.aggN rfl) FzA.bool⟩⟩
  have hlt : i < o.Names.length := by omega
  have hm : o.Names.getD i default ∈ o.Names := getD_mem hlt
  (refine EC.use (ec_ref09_copied _ (ho.2.2.2.2.2.2.2 _ hm)) ?_; refine eK E_ok ?_)
  exact ⟨(o.Names.getD i default, true), fun _ => hm, Lt.t2 (FzA.aggN rfl) FzA.bool⟩
def okN (I : Int → Prop) (n : GName) : Prop := smallN n ∧ 1 ≤ n.IDs.length ∧ ∀ i ∈ n.IDs, I i
theorem okO.names {I D : Int → Prop} {o : GObject} (h : okO I D o) {n : GName} (hn : n ∈ o.Names) : okN I n := ⟨h.sm.2.2.2.2.2.2.2 n hn, h.nm n hn, h.kn.2.2.2 n hn⟩
theorem okO_names {I D : Int → Prop} {o : GObject} {l : List GName} (h : okO I D o) (hk : o.Kind ≠ 1) (hl : l.length ≤ 1000000) (hn : ∀ n ∈ l, okN I n) : okO I D { o with Names := l } :=
  ⟨⟨h.sm.1, h.sm.2.1, h.sm.2.2.1, h.sm.2.2.2.1, h.sm.2.2.2.2.1, h.sm.2.2.2.2.2.1, hl, fun n hm => (hn n hm).1⟩, h.pd, fun e => absurd e hk, ⟨h.kn.1, h.kn.2.1, h.kn.2.2.1, fun n hm => (hn n hm).2.2⟩, fun n hm => (hn n hm).2.1, fun e => absurd e hk⟩
theorem ec_ref09_AddK {I D : Int → Prop} (o : GObject) (n : GName) (ho : okO I D o) (h0 : I 0) (hn : okN I n) : EC Tryz.prog 95 [.agg o.c, .agg n.c] [] fun r N => N = [] ∧ ∃ x : GObject × Int, (okO I D x.1 ∧ x.1.Kind ≠ 1) ∧ r = .tup [.agg x.1.c, .int .i64 x.2] := by
  refine EC.finKP ?_
  (refine nK E_ok call_95 Tryz.func95 Tryz.ntmps95 Tryz.results95 ?_)
  (repeat' (first | (with_reducible intro hh; (first | subst hh | (revert hh; with_reducible intro _))) | with_reducible apply And.intro | refine eK E_ok ?_ | (refine EC.useP (ec_ref09_ValidK o ho.sm) ?_; rintro _ _) | (refine EC.useP (ec_ref09_entry n hn.1) ?_; rintro _ _) | (refine EC.useP (ec_ref09_FindK o n.Path ho.sm) ?_; rintro ⟨_, _⟩ _) | (refine EC.useP (ec_ref09_insertQ (Q := okN I) (fun n h => h.1) o.Names n ho.sm.2.2.2.2.2.2.1 (fun n h => ho.names h) hn) ?_; rintro _ _) | exact trivial | contradiction)) <;> (first | (exact ⟨(_, _), ⟨okO_def h0, by decide⟩, Lt.t2 (FzA.aggO rfl) (FzA.intE rfl)⟩) | skip)
  rename_i hx1 _ _ _ _ _ _ _ x hx
  exact ⟨({ o with Names := x }, 0), ⟨okO_names ho (by have := (hx1 rfl).2; omega) (by have := (hx1 rfl).1; have := hx.1; omega) hx.2, by show o.Kind ≠ 1; have := (hx1 rfl).2; omega⟩, Lt.t2 (FzA.aggO rfl) (FzA.intE rfl)⟩
theorem ec_ref09_RenameK {I D : Int → Prop} (o : GObject) (a b : List UInt8) (ho : okO I D o) (h0 : I 0) (ha : a.length ≤ 1000000) (hb : b.length ≤ 1000000) : EC Tryz.prog 168 [.agg o.c, .str a, .str b] [] fun r N => N = [] ∧ ∃ x : GObject × Int, okO I D x.1 ∧ r = .tup [.agg x.1.c, .int .i64 x.2] := by
  refine EC.finKP ?_
  (refine nK E_ok call_168 Tryz.func168 Tryz.ntmps168 Tryz.results168 ?_)
  (repeat' (first | (with_reducible intro hh; (first | subst hh | (revert hh; with_reducible intro _))) | with_reducible apply And.intro | refine eK E_ok ?_ | (refine EC.useP (ec_ref09_ValidK o ho.sm) ?_; rintro _ _) | (refine EC.useP (ec_ref09_Path b hb) ?_; rintro _ _) | (refine EC.useP (ec_ref09_FindK o a ho.sm) ?_; rintro ⟨_, _⟩ _) | (refine EC.useP (ec_ref09_FindK o b ho.sm) ?_; rintro ⟨_, _⟩ _) | (refine EC.useP (ec_ref09_insertQ (Q := okN I) (fun n h => h.1) o.Names n ho.sm.2.2.2.2.2.2.1 (fun n h => ho.names h) hn) ?_; rintro _ _) | exact trivial | contradiction)) <;> (first | (exact ⟨(_, _), okO_def h0, Lt.t2 (FzA.aggO rfl) (FzA.intE rfl)⟩) | skip)
  rename_i fr1 v hv g1 n d hn fr2 g2 p hp g3 x0 hx0 fr3
  have hd : d = true := by simpa using g2
  have hvt : v = true := by simpa using g1
  have hnk : okN I n := ho.names (hn hd)
  have hl := ho.sm.2.2.2.2.2.2.1
  refine EV_matr 12 70 3 rfl ?_
  intro hh
  refine EV_loopK E_ok [1, 2, 3, 6, 7, 8, 41, 42] (fun x : Nat × List GName × RowH => [(43, .int .i64 x.1), (12, .row 4 x.2.2 3 0 x.2.1.length)]) (fun B x => updH B 4 x.2.2 (x.2.1.map GName.c)) (fun x => x.1 ≤ o.Names.length ∧ x.2.1.length ≤ x.1 ∧ ∀ y ∈ x.2.1, y ∈ o.Names) (fun x => o.Names.length - x.1) (0, [], hh) ⟨Nat.zero_le _, Nat.le_refl _, by simp⟩ ?_
  rintro ⟨i, m, hr⟩ ⟨hi, hm, hmem⟩
  replace hi : i ≤ o.Names.length := hi
  replace hm : m.length ≤ i := hm
  replace hmem : ∀ y ∈ m, y ∈ o.Names := hmem
  have hw : IntKind.i64.wrap ((i : Int) + 1) = ((i + 1 : Nat) : Int) := by rw [i64_in' (by omega)]; omega
  simp only [hw, push_cast, simprocAttr]
  refine ⟨fun h fr4 => ⟨⟨by omega, h⟩, fun g fr5 => ⟨by omega, ?_⟩, fun g => NX_mk (i + 1, m, hr) ⟨by show i + 1 ≤ _; omega, by show m.length ≤ i + 1; omega, hmem⟩⟩, fun h => ?_⟩
  · have hlt : i < o.Names.length := by omega
    rw [show List.map GName.c m ++ [(o.Names.getD i default).c] = List.map GName.c (m ++ [o.Names.getD i default]) by simp, show m.length + 1 = (m ++ [o.Names.getD i default]).length by simp]
    refine NX_mk (i + 1, m ++ [o.Names.getD i default], fr5 3) ⟨by show i + 1 ≤ _; omega, by show (m ++ [_]).length ≤ _; simp; omega, ?_⟩
    show ∀ y ∈ m ++ [o.Names.getD i default], y ∈ o.Names
    intro y hy
    rcases List.mem_append.1 hy with hy | hy
    · exact hmem y hy
    · rw [List.mem_singleton.1 hy]; exact getD_mem hlt
  · have hnk' : okN I { Path := b, Kind := n.Kind, IDs := n.IDs } := ⟨⟨hnk.1.1, hb⟩, hnk.2⟩
    refine EC.give 4 (LFz.rowM (i := 4) (cells := GName.c) (d := default) (l := m) (Nat.le_refl _) rfl rfl rfl (LFz.nameC .nil)) ?_
    simp only [List.take_succ_cons, List.take_zero]
    (refine EC.useP (ec_ref09_insertQ (Q := okN I) (fun n h => h.1) m { Path := b, Kind := n.Kind, IDs := n.IDs } (by omega) (fun n h => ho.names (hmem n h)) hnk') ?_; rintro x ⟨hx1, hx2⟩; refine eK E_ok ?_)
    have hv2 := hv hvt
    refine ⟨({ o with Names := x }, 0), okO_names ho (by omega) (by omega) hx2, Lt.t2 (FzA.aggO rfl) (FzA.intE rfl)⟩
end Go.Proofs.YtfmldmafigpblaaGreatDoor
end
section
namespace Go.Proofs.YtfmldmafigpblaaGreatDoor
open Go.Lift
set_option linter.unusedSimpArgs false
set_option linter.unusedVariables false
set_option maxRecDepth 10000
def DX (B : List Own) (r R : SV) (o : Own) : Prop := Lk 1 B r R ∧ B.take 1 = [o]
theorem DX.mk {B : List Own} {r R : SV} {o : Own} (h : Lk 1 B r R) (hb : B.take 1 = [o]) : DX B r R o := ⟨h, hb⟩
section
variable {P : Program} {E : Env} {n : Nat} {k : Kn} {t : Slots} {B : List Own} {all rest : List Oper}
theorem EC.finX {f : Nat} {args : List SV} {B0 : List Own} {R : SV} {hh : RowH} {E e : Nat} {xs : List (List SV)}
    (h : EC P f args B0 fun r B' => DX B' r R (.row hh E e xs)) : EC P f args B0 fun r N => r = R ∧ N = [.row hh E e xs] := by
  have := EC.finKE (C := fun _ : Unit => True) (R := fun _ => R) (X := fun _ => xs) (hh := hh) (E := E) (e := e) (h.mono fun r B' h => ⟨(), trivial, h⟩)
  exact this.mono fun r N ⟨_, _, h1, h2⟩ => ⟨h1, h2⟩
def DXR (B : List Own) (r R : SV) (hh : RowH) (E e : Nat) (ys : List (List SV)) : Prop := Lk 1 B r R ∧ ∃ xs, getD' B 0 = .row hh E e xs ∧ FR B xs ys
theorem EC.finXR {f : Nat} {args : List SV} {B0 : List Own} {R : SV} {hh : RowH} {E e : Nat} {ys : List (List SV)} (h : EC P f args B0 fun r B' => DXR B' r R hh E e ys) : EC P f args B0 fun r N => r = R ∧ N = [.row hh E e ys] := by
  have h2 : EC P f args B0 fun r N => SLe r R ∧ N = [.row hh E e ys] := EC.closeR (h.mono fun r B' ⟨h1, xs, h2, h3⟩ => ⟨h1.1, hh, E, e, xs, ys, h2, h3, h1.2, rfl⟩)
  exact EC.ret (h2.mono fun r N ⟨h1, h2⟩ => ⟨R, h1, rfl, h2⟩)
end
theorem FR.put {α : Type} {B : List Own} {i E e n o : Nat} {h : RowH} {xs : List (List SV)} {cells : α → List SV} {d : α} {l : List α} {cs ds : List SV} (hm : 1 ≤ i) (hB : getD' B i = .row h E e xs) (hx : xs = l.map cells) (hn : n = l.length)
    (hfk : ∀ sel B, frzKL sel B cs) (hfz : ∀ sel B, frzL sel B cs = cs) (h2 : (putL cs o [.row i h e 0 n]).length ≠ 2) (he : putL cs o [slL e cells d l] = ds) : FR B [putL cs o [.row i h e 0 n]] [ds] := by
  subst hx hn
  have hsel : fromM 1 i = true := by simpa [fromM] using hm
  refine FR.one h2 (frzKL_put _ _ _ _ _ (hfk _ _) ⟨by simp only [frzKC, hsel, hB]; exact ⟨trivial, trivial, by simp⟩, trivial⟩) ?_
  rw [frzL_put, hfz]
  refine LLe.put (LLe.refl _) o ?_ he
  simp only [frzC, hsel, hB]
  exact SLe.sl (fun h => h) (.inr rfl) fun k hk => by simp [List.getD, hk, elt]
attribute [local irreducible] EC EV
abbrev sRow (h : RowH) (m : GStep) : Own := .row h 180 41 [m.c]
theorem ec_st_get (h : RowH) (m : GStep) (id : Int) (hl : m.s.Objects.length ≤ 1000000) : EC Tryz.prog 127 [.rptr 0 h 41 0 0, .int .u64 id] [sRow h m] fun r N => r = .agg (getS m.s id).1.c ∧ N = [sRow h m] := by
  refine EC.finX ?_
  (refine nK E_ok call_127 Tryz.func127 Tryz.ntmps127 Tryz.results127 ?_)
  (repeat' (first | (with_reducible intro hh; (first | subst hh | (revert hh; with_reducible intro _))) | with_reducible apply And.intro | refine eK E_ok ?_ | refine EC.use (ec_ref18_Get m.s id hl) ?_ | exact trivial | contradiction)) <;> (first | (exact DX.mk (Lk.aggO rfl) rfl) | skip)
def putM (m : GStep) (o : GObject) : GStep := { m with s := (putS m.s o).1 }
theorem ec_st_put (h : RowH) (m : GStep) (o : GObject) (hl : m.s.Objects.length ≤ 1000000) : EC Tryz.prog 119 [.rptr 0 h 41 0 0, .agg o.c] [sRow h m] fun r N => r = .tup [] ∧ N = [sRow h (putM m o)] := by
  refine EC.finX ?_
  (refine nK E_ok call_119 Tryz.func119 Tryz.ntmps119 Tryz.results119 ?_)
  (repeat' (first | (with_reducible intro hh; (first | subst hh | (revert hh; with_reducible intro _))) | with_reducible apply And.intro | refine eK E_ok ?_ | refine EC.use (ec_ref18_Put m.s o hl) ?_ | refine dM E_ok 9 [0, 1, 2, 3, 4, 5, 6, 7, 8, 9, 10, 11, 12, 13] [0, 1, 2, 3] fol fun R hR => ?_ | refine ed2 E_ok 4 5 ?_ ?_ | refine ed1 E_ok 5 ?_ | refine ed1 E_ok 4 ?_ | refine dR E_ok [6, 7, 8, 9, 10, 11, 12] ?_ | refine dR E_ok [7, 8, 9, 10, 11, 12] ?_ | (refine hR _ _ ?_; refine sA ?_) | exact trivial | contradiction)) <;> (first | (exact DX.mk Lk.t0 rfl) | skip)
def put2M (m : GStep) (o : GObject) (gone : Bool) (id : Int) : GStep := if gone = true then { m with s := (remS m.s id).1 } else putM m o
theorem ec_st_put2 (h : RowH) (m : GStep) (o : GObject) (gone : Bool) (id : Int) (hl : m.s.Objects.length ≤ 1000000) : EC Tryz.prog 128 [.rptr 0 h 41 0 0, .agg o.c, .bool gone, .int .u64 id] [sRow h m] fun r N => r = .tup [] ∧ N = [sRow h (put2M m o gone id)] := by
  refine EC.finX ?_
  (refine nK E_ok call_128 Tryz.func128 Tryz.ntmps128 Tryz.results128 ?_)
  (repeat' (first | (with_reducible intro hh; (first | subst hh | (revert hh; with_reducible intro _))) | with_reducible apply And.intro | refine eK E_ok ?_ | refine EC.use (ec_ref18_Remove m.s id hl) ?_ | refine aX 0 (ec_st_put h m o hl) rfl ?_ | exact trivial | contradiction)) <;> (first | (exact DX.mk Lk.t0 rfl) | skip)
def takeM (m : GStep) : GStep := { m with out := { m.out with Used := m.out.Used + 1 } }
theorem ec_st_take (h : RowH) (m : GStep) (hu : 0 ≤ m.out.Used ∧ m.out.Used < m.fresh.length) (hf : m.fresh.length ≤ 1000000) : EC Tryz.prog 146 [.rptr 0 h 41 0 0] [sRow h m] fun r N => r = .int .u64 (m.fresh.getD m.out.Used.toNat default) ∧ N = [sRow h (takeM m)] := by
  refine EC.finX ?_
  have hw : IntKind.i64.wrap (m.out.Used + 1) = m.out.Used + 1 := i64_in' (by omega)
  (refine nK E_ok call_146 Tryz.func146 Tryz.ntmps146 Tryz.results146 ?_)
  (repeat' (first | (with_reducible intro hh; (first | subst hh | (revert hh; with_reducible intro _))) | with_reducible apply And.intro | refine eK E_ok ?_ | refine dN E_ok [] [] [0, 1, 2, 3, 4, 5, 6, 7, 8, 9, 10, 11] fol fun R hR => ?_ | (refine hR _ _ ?_; refine sA ?_) | exact trivial | contradiction)) <;> (first | omega | (exact DX.mk (Lk.int rfl) (by rw [hw]; rfl)) | skip)
def dropM (m : GStep) (s : GSlot) : GStep := if (slHold s == 0) = true then m else if ((tbDrop (getS m.s (slHold s)).1 s).2.2 == 0) = true then put2M m (tbDrop (getS m.s (slHold s)).1 s).1 (tbDrop (getS m.s (slHold s)).1 s).2.1 (slHold s) else m
theorem ec_st_drop (h : RowH) (m : GStep) (s : GSlot) (hl : m.s.Objects.length ≤ 1000000) : EC Tryz.prog 129 [.rptr 0 h 41 0 0, .agg s.c] [sRow h m] fun r N => r = .tup [] ∧ N = [sRow h (dropM m s)] := by
  refine EC.finX ?_
  (refine nK E_ok call_129 Tryz.func129 Tryz.ntmps129 Tryz.results129 ?_)
  (repeat' (first | (with_reducible intro hh; (first | subst hh | (revert hh; with_reducible intro _))) | with_reducible apply And.intro | refine eK E_ok ?_ | refine EC.use (ec_ref10_Holder s) ?_ | refine aX 0 (ec_st_get h m _ hl) rfl ?_ | refine EC.use (ec_ref10_Drop _ s) ?_ | refine aX 0 (ec_st_put2 h m _ _ _ hl) rfl ?_ | refine dM E_ok 10 [0] [0, 1, 3] fol fun R hR => ?_ | refine ed2 E_ok 2 9 ?_ ?_ | refine ed2 E_ok 4 9 ?_ ?_ | refine dR E_ok [2, 4, 5, 6, 7, 8, 10, 11, 12] ?_ | refine dR E_ok [4, 5, 6, 7, 8, 10, 11, 12] ?_ | refine dR E_ok [5, 6, 7, 8, 10, 11, 12] ?_ | refine dR E_ok [5, 6, 7, 8, 9, 10, 11, 12] ?_ | (refine hR _ _ ?_; refine sA ?_) | exact trivial | contradiction)) <;> (first | (exact DX.mk Lk.t0 (by simp [dropM, *])) | skip)
def holdM (m : GStep) (s : GSlot) : GStep := if (slHold s == 0) = true then m else if ((tbChange (getS m.s (slHold s)).1 s 1).2 == 0) = true then putM m (tbChange (getS m.s (slHold s)).1 s 1).1 else m
theorem ec_st_hold (h : RowH) (m : GStep) (s : GSlot) (hl : m.s.Objects.length ≤ 1000000) : EC Tryz.prog 157 [.rptr 0 h 41 0 0, .agg s.c] [sRow h m] fun r N => ∃ x : Int × GStep, x.2 = holdM m s ∧ r = .int .i64 x.1 ∧ N = [sRow h x.2] := by
  refine EC.finKE ?_
  (refine nK E_ok call_157 Tryz.func157 Tryz.ntmps157 Tryz.results157 ?_)
  (repeat' (first | (with_reducible intro hh; (first | subst hh | (revert hh; with_reducible intro _))) | with_reducible apply And.intro | refine eK E_ok ?_ | refine EC.use (ec_ref10_Holder s) ?_ | refine aX 0 (ec_st_get h m _ hl) rfl ?_ | refine EC.use (ec_ref10_Hold _ s) ?_ | refine aX 0 (ec_st_put h m _ hl) rfl ?_ | refine dM E_ok 8 [0] [0, 1, 3] fol fun R hR => ?_ | refine ed2 E_ok 2 8 ?_ ?_ | refine ed2 E_ok 4 8 ?_ ?_ | refine dR E_ok [2, 4, 5, 6, 7, 9, 10] ?_ | refine dR E_ok [4, 5, 6, 7, 9, 10] ?_ | refine dR E_ok [5, 6, 7, 9, 10] ?_ | refine dR E_ok [5, 6, 7, 8, 9, 10] ?_ | (refine hR _ _ ?_; refine sA ?_) | exact trivial | contradiction)) <;> (first | (exact ⟨(_, _), by simp [holdM, putM, *]; done, Lk.int rfl, rfl⟩) | skip)
def strR (x : List UInt8 × Int) : SV := .tup [.str x.1, .int .i64 x.2]
attribute [push_cast] strR
def textM (m : GStep) (n : Int) : List UInt8 × Int := if (decide (n < 0) || decide ((m.o.Process.Program.Strings.length : Int) ≤ n)) = true then ([], 2) else (m.o.Process.Program.Strings.getD n.toNat default, 0)
theorem ec_st_text (h : RowH) (m : GStep) (n : Int) (hl : m.o.Process.Program.Strings.length ≤ 1000000) : EC Tryz.prog 159 [.rptr 0 h 41 0 0, .int .i64 n] [sRow h m] fun r N => r = strR (textM m n) ∧ N = [sRow h m] := by
  refine EC.finX ?_
  have hw : IntKind.i64.wrap (m.o.Process.Program.Strings.length : Int) = m.o.Process.Program.Strings.length := i64_in' (by omega)
  (refine nK E_ok call_159 Tryz.func159 Tryz.ntmps159 Tryz.results159 ?_)
  (repeat' (first | (with_reducible intro hh; (first | subst hh | (revert hh; with_reducible intro _))) | with_reducible apply And.intro | refine eK E_ok ?_ | exact trivial | contradiction))
  · rename_i g
    exact DX.mk (Lk.t2 (FkA.str (by rw [textM, if_pos g])) (FkA.int (by rw [textM, if_pos g]))) rfl
  · rename_i g
    simp at g; omega
  · rename_i g
    simp at g; omega
  · rename_i g
    have g' : ¬ (decide (n < 0) || decide ((m.o.Process.Program.Strings.length : Int) ≤ n)) = true := by rw [g]; simp
    exact DX.mk (Lk.t2 (FkA.str (by rw [textM, if_neg g'])) (FkA.int (by rw [textM, if_neg g']))) rfl
theorem ec_st_entry {I D : Int → Prop} (h : RowH) (m : GStep) (path : List UInt8) (hs : okS I D m.s) (h0 : I 0) (hl : m.s.Objects.length ≤ 1000000) : EC Tryz.prog 160 [.rptr 0 h 41 0 0, .str path] [sRow h m] fun r N => ∃ x : (GName × Bool) × GStep, ((x.1.2 = true → okN I x.1.1) ∧ x.2 = m) ∧ r = .tup [.agg x.1.1.c, .bool x.1.2] ∧ N = [sRow h x.2] := by
  refine EC.finKE ?_
  (refine nK E_ok call_160 Tryz.func160 Tryz.ntmps160 Tryz.results160 ?_)
  (repeat' (first | (with_reducible intro hh; (first | subst hh | (revert hh; with_reducible intro _))) | with_reducible apply And.intro | refine eK E_ok ?_ | refine aX 0 (ec_st_get h m _ hl) rfl ?_ | (refine EC.useP (ec_ref09_FindK _ path (hs.get h0).sm) ?_; rintro ⟨_, _⟩ _) | exact trivial | contradiction))
  rename_i fr n b hb
  exact ⟨((n, b), m), ⟨fun e => (hs.get h0).names (hb e), rfl⟩, Lk.t2 (FkA.aggN rfl) (FkA.bool rfl), rfl⟩
theorem ec_st_name {I D : Int → Prop} (h : RowH) (m : GStep) (path : List UInt8) (kind : Int) (ids : List Int) (hs : okS I D m.s) (h0 : I 0) (hl : m.s.Objects.length ≤ 1000000) (hp : path.length ≤ 1000000) (hi : 1 ≤ ids.length ∧ ids.length ≤ 1000000) (hk : ∀ i ∈ ids, I i) : EC Tryz.prog 161 [.rptr 0 h 41 0 0, .str path, .int .i64 kind, slL 1 (intC .u64) default ids] [sRow h m] fun r N => ∃ x : Int × GStep, (x.2 = m ∨ ∃ o, okO I D o ∧ o.Kind ≠ 1 ∧ x.2 = putM m o) ∧ r = .int .i64 x.1 ∧ N = [sRow h x.2] := by
  refine EC.finKE ?_
  (refine nK E_ok call_161 Tryz.func161 Tryz.ntmps161 Tryz.results161 ?_)
  (repeat' (first | (with_reducible intro hh; (first | subst hh | (revert hh; with_reducible intro _))) | with_reducible apply And.intro | refine eK E_ok ?_ | refine aX 0 (ec_st_get h m _ hl) rfl ?_ | (refine EC.useP (ec_ref09_AddK _ _ (hs.get h0) h0 ⟨⟨hi.2, hp⟩, hi.1, hk⟩) ?_; rintro ⟨_, _⟩ _) | refine aX 0 (ec_st_put h m _ hl) rfl ?_ | exact trivial | contradiction))
  · rename_i o e ho fr g
    exact ⟨(e, putM m o), .inr ⟨o, ho.1, ho.2, rfl⟩, Lk.int rfl, rfl⟩
  · exact ⟨(_, m), .inl rfl, Lk.int rfl, rfl⟩
theorem ec_st_slot (h : RowH) (m : GStep) (s : GSlot) (hl : m.o.Process.Table.length ≤ 1000000) : EC Tryz.prog 147 [.rptr 0 h 41 0 0, .agg s.c] [sRow h m] fun r N => ∃ x : Int × GStep, x.2 = { m with o := { m.o with Process := { m.o.Process with Table := (tbPut m.o.Process.Table s).1 } } } ∧ r = .int .i64 x.1 ∧ N = [sRow h x.2] := by
  refine EC.finKE ?_
  (refine nK E_ok call_147 Tryz.func147 Tryz.ntmps147 Tryz.results147 ?_)
  (repeat' (first | (with_reducible intro hh; (first | subst hh | (revert hh; with_reducible intro _))) | with_reducible apply And.intro | refine eK E_ok ?_ | refine EC.use (ec_ref10_Put _ s hl) ?_ | refine dN E_ok [] [] [0, 1, 2, 3, 4, 5, 6, 7, 8, 9, 10, 11, 12, 13, 14] fol fun R hR => ?_ | refine dR E_ok [8, 9, 10, 11, 12, 13, 14] ?_ | (refine hR _ _ ?_; refine sA ?_) | exact trivial | contradiction)) <;> (first | (exact ⟨(_, _), rfl, Lk.int rfl, rfl⟩) | skip)
theorem ec_st_target (h : RowH) (m : GStep) (y : GObject) (e : Int) (hl : m.s.Objects.length ≤ 1000000) : EC Tryz.prog 173 [.rptr 0 h 41 0 0, .agg y.c, .int .i64 e] [sRow h m] fun r N => r = .tup [.int .i64 0, .int .i64 e] ∧ N = [sRow h (if e = 0 then putM m y else m)] := by
  refine EC.finX ?_
  (refine nK E_ok call_173 Tryz.func173 Tryz.ntmps173 Tryz.results173 ?_)
  (repeat' (first | (with_reducible intro hh; (first | subst hh | (revert hh; with_reducible intro _))) | with_reducible apply And.intro | refine eK E_ok ?_ | refine aX 0 (ec_st_put h m y hl) rfl ?_ | exact trivial | contradiction)) <;> (first | (exact DX.mk (Lk.t2 (FkA.int rfl) (FkA.int rfl)) (by simp_all; done)) | skip)
theorem ec_st_room (h : RowH) (m : GStep) (n : Int) (hl : m.o.Process.Table.length ≤ 1000000) : EC Tryz.prog 144 [.rptr 0 h 41 0 0, .int .i64 n] [sRow h m] fun r N => ∃ x : Bool × GStep, x.2 = m ∧ r = .bool x.1 ∧ N = [sRow h x.2] := by
  refine EC.finKE ?_
  (refine nK E_ok call_144 Tryz.func144 Tryz.ntmps144 Tryz.results144 ?_)
  (repeat' (first | (with_reducible intro hh; (first | subst hh | (revert hh; with_reducible intro _))) | with_reducible apply And.intro | refine eK E_ok ?_ | exact trivial | contradiction))
  refine EV_loopK E_ok [0, 1, 4, 18, 19] (fun x : Nat × Int => [(20, .int .i64 x.1), (6, .int .i64 x.2)]) (fun B _ => B) (fun x => x.1 ≤ m.o.Process.Table.length) (fun x => m.o.Process.Table.length - x.1) (0, _) (Nat.zero_le _) ?_
  rintro ⟨i, f⟩ hi
  replace hi : i ≤ m.o.Process.Table.length := hi
  have hw : IntKind.i64.wrap ((i : Int) + 1) = ((i + 1 : Nat) : Int) := by rw [i64_in' (by omega)]; omega
  simp only [hw, push_cast, simprocAttr]
  refine ⟨fun h fr => ⟨⟨by omega, h⟩, fun g => NX_mk (i + 1, _) (by show i + 1 ≤ _; omega), fun g => NX_mk (i + 1, f) (by show i + 1 ≤ _; omega)⟩, fun h => ⟨(_, m), rfl, Lk.bool rfl, rfl⟩⟩
theorem ec_st_set (h : RowH) (m : GStep) (n : Int) (s : GSlot) (hl : m.o.Process.Table.length ≤ 1000000) (hn : 0 ≤ n ∧ n < m.o.Process.Table.length) : EC Tryz.prog 178 [.rptr 0 h 41 0 0, .int .i64 n, .agg s.c] [sRow h m] fun r N => r = .tup [] ∧ N = [sRow h { m with o := { m.o with Process := { m.o.Process with Table := m.o.Process.Table.set n.toNat s } } }] := by
  refine EC.finXR ?_
  (refine nK E_ok call_178 Tryz.func178 Tryz.ntmps178 Tryz.results178 ?_)
  have hnl : n.toNat < m.o.Process.Table.length := by omega
  (repeat' (first | (with_reducible intro hh; (first | subst hh | (revert hh; with_reducible intro _))) | with_reducible apply And.intro | refine eK E_ok ?_ | exact trivial | contradiction)) <;> (first | omega | skip)
  have hq : (List.map GSlot.c m.o.Process.Table).set n.toNat (putL ((List.map GSlot.c m.o.Process.Table).getD n.toNat []) 0 s.c) = (m.o.Process.Table.set n.toNat s).map GSlot.c := by
    rw [List.map_set, show (List.map GSlot.c m.o.Process.Table).getD n.toNat [] = GSlot.c m.o.Process.Table[n.toNat] by simp [List.getD, hnl], GSlot.q]
  exact ⟨Lk.t0, _, rfl, FR.put (i := 2) (by decide) rfl hq (by simp) (fun sel B => by rw [GStep.fk]; trivial) (fun sel B => GStep.fz sel B m) (by show 41 ≠ 2; decide) rfl⟩
end Go.Proofs.YtfmldmafigpblaaGreatDoor
end
