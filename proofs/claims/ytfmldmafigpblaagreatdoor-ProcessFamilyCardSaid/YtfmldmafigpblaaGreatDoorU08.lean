/- Part 8: ChanB, Device, Sem, KerA, KerB, KerC, KerD. -/
import Derived.Test.YtfmldmafigpblaaGreatDoorU05
import Derived.Test.YtfmldmafigpblaaGreatDoorU06
import Derived.Test.YtfmldmafigpblaaGreatDoorU07
section
namespace Go.Proofs.YtfmldmafigpblaaGreatDoor
open Go.Lift
set_option linter.unusedSimpArgs false
set_option linter.unusedVariables false
set_option maxRecDepth 10000
theorem ec_ref12_end (k : Int) : EC Tryz.prog 198 [.int .i64 k] [] fun r B => B = [] ∧ r = .bool (k == 0 || k == 1) := by
  refine EC.fin (nA E_ok call_198 Tryz.func198 Tryz.ntmps198 Tryz.results198 ?_)
  (repeat (first | refine stepA ?_ | refine regA E_ok fun fr => ⟨?_⟩))
  ((try refine sC ?_); refine sF ?_; refine SLe.of_eq ?_; rfl)
theorem LFz.rowL {α : Type} {B : List Own} {i e n E : Nat} {h : RowH} {xs : List (List SV)} {cells : α → List SV} {d : α} {l : List α} {r r' : List SV} (hB : getD' B i = .row h E e xs) (hx : xs = l.map cells) (hn : n = l.length) (hr : LFz 0 B r r') :
    LFz 0 B (.row i h e 0 n :: r) (slL e cells d l :: r') := LFz.row hB hx hn hr
theorem LFz.objc {m : Nat} {B : List Own} {o : GObject} {r r' : List SV} (hr : LFz m B r r') : LFz m B (.agg o.c :: r) (.agg o.c :: r') := by
  refine .cons ?_ ?_ hr
  · simp only [frzKT, frzKA]; rw [GObject.fk]; trivial
  · simp only [frzT, frzA]; rw [GObject.fz]; exact SLe.refl _
def okAtC (o : GObject) (i : Nat) : Bool := (o.Kind == 7 && !(o.ID == 0) && decide (0 < IntKind.i64.wrap (o.Ends.x0 + o.Ends.x1))) && (if 0 < i then chEnd o.Ends.x0 o.Queues.x0 else true) && (if 1 < i then chEnd o.Ends.x1 o.Queues.x1 else true)
theorem okAt_2 (o : GObject) : (okAtC o 2 && onlyB o 1536) = chanOk o := by
  simp only [okAtC, chanOk]
  by_cases h0 : chEnd o.Ends.x0 o.Queues.x0 = true
  · by_cases h1 : chEnd o.Ends.x1 o.Queues.x1 = true
    · have k0 := h0
      have k1 := h1
      rw [chEnd_eq] at k0 k1
      simp only [Bool.and_eq_true, decide_eq_true_eq] at k0 k1
      have hw : IntKind.i64.wrap (o.Ends.x0 + o.Ends.x1) = o.Ends.x0 + o.Ends.x1 := i64_in' (by omega)
      have hd : decide (0 < o.Ends.x0 + o.Ends.x1) = !(o.Ends == default) := by
        clear hw
        generalize o.Ends = e at k0 k1 ⊢
        rcases e with ⟨a, b⟩
        dsimp only at k0 k1 ⊢
        apply Bool.eq_iff_iff.2
        have : ((⟨a, b⟩ : A2i64) = default) ↔ a = 0 ∧ b = 0 := ⟨fun h => ⟨congrArg A2i64.x0 h, congrArg A2i64.x1 h⟩, fun h => by rw [h.1, h.2]; rfl⟩
        simp [this]
        omega
      simp [h0, h1, hw, hd]
    · simp [h1]
  · simp [h0]
theorem ec_ref12_Valid (o : GObject) (ho : smallO o) : EC Tryz.prog 197 [.agg o.c] [] fun r B => B = [] ∧ r = .bool (chanOk o) := by
  have hq0 := ho.2.2.2.2.1
  have hq1 := ho.2.2.2.2.2.1
  rw [← okAt_2]
  refine EC.fin (nA E_ok call_197 Tryz.func197 Tryz.ntmps197 Tryz.results197 ?_)
  (repeat (first | refine stepA ?_ | refine regA E_ok fun fr => ⟨?_⟩))
  refine EV_loopL [1] (fun i : Nat => [(23, .int .i64 i), (3, .bool (okAtC o i))]) (fun i => i ≤ 2) (fun i => 2 - i) 0 (by decide) ⟨rfl, by simp only [okAtC, ← bne_eq]; simp [lkp], trivial⟩ ?_
  rintro i hi
  obtain rfl | rfl | rfl : i = 0 ∨ i = 1 ∨ i = 2 := by omega
  · refine sK ?_
    (repeat (first | refine stepA ?_ | refine regA E_ok fun fr => ⟨?_⟩))
    (apply EV_cond; exact rfl; all_goals intro h)
    · (repeat (first | refine stepA ?_ | refine regA E_ok fun fr => ⟨?_⟩))
      rw [show (okAtC o 0 && decide (0 ≤ o.Ends.x0) && decide (o.Ends.x0 ≤ 1073741824) && decide ((o.Queues.x0.length : Int) ≤ 64)) = okAtC o (0 + 1) by simp [okAtC, chEnd_eq, Bool.and_assoc]]
      ((try refine sT ?_); first | refine nxA (0 + 1) ?_ ?_ | refine nxB (0 + 1) ?_ ?_)
      · decide
      · decide
    · simp at h
  · refine sK ?_
    (repeat (first | refine stepA ?_ | refine regA E_ok fun fr => ⟨?_⟩))
    (apply EV_cond; exact rfl; all_goals intro h)
    · (repeat (first | refine stepA ?_ | refine regA E_ok fun fr => ⟨?_⟩))
      rw [show (okAtC o 1 && decide (0 ≤ o.Ends.x1) && decide (o.Ends.x1 ≤ 1073741824) && decide ((o.Queues.x1.length : Int) ≤ 64)) = okAtC o (1 + 1) by simp [okAtC, chEnd_eq, Bool.and_assoc]]
      ((try refine sT ?_); first | refine nxA (1 + 1) ?_ ?_ | refine nxB (1 + 1) ?_ ?_)
      · decide
      · decide
    · simp at h
  · refine sK ?_
    (repeat (first | refine stepA ?_ | refine regA E_ok fun fr => ⟨?_⟩))
    (apply EV_cond; exact rfl; all_goals intro h)
    · simp at h
    clear h
    generalize hb : okAtC o 2 = b
    (repeat (first | refine stepA ?_ | refine regA E_ok fun fr => ⟨?_⟩))
    (try refine regA E_ok fun fr => ⟨?_⟩)
    refine ⟨fun hg => ?_, fun hg => ?_⟩
    · (refine EC.use (ec_ref06_Bare { o with Queues := default, Ends := default }) ?_; (try simp only [hg]); refine gA E_ok fun fr => ⟨?_⟩)
      (repeat (first | refine stepA ?_ | refine regA E_ok fun fr => ⟨?_⟩))
      ((try refine sC ?_); refine sF ?_; refine SLe.of_eq ?_; (simp only [hb, hg, chan_bare]; (try rfl)))
    · ((try simp only [hg]); refine gA E_ok fun fr => ⟨?_⟩)
      (repeat (first | refine stepA ?_ | refine regA E_ok fun fr => ⟨?_⟩))
      ((try refine sC ?_); refine sF ?_; refine SLe.of_eq ?_; (simp only [hb, hg]; (try rfl)))
theorem ec_ref12_queues0 (o : GObject) (D : List Int) (ho : smallO o) (hD : D.length ≤ 1000000) : EC Tryz.prog 199 [.agg o.c, .int .i64 0, slL 1 (intC .u8) default D] [] fun r B => B = [] ∧ r = .agg (A2Lu8.c { o.Queues with x0 := D }) := by
  have hq0 := ho.2.2.2.2.1
  have hq1 := ho.2.2.2.2.2.1
  refine EC.fin (nA E_ok call_199 Tryz.func199 Tryz.ntmps199 Tryz.results199 ?_)
  (repeat (first | refine stepA ?_ | refine regA E_ok fun fr => ⟨?_⟩))
  (try refine sC ?_)
  exact fin_agg (FzL.two (FzC.row (cells := intC .u8) (d := default) rfl rfl rfl) (FzC.row (cells := intC .u8) (d := default) rfl rfl rfl))
theorem ec_ref12_queues1 (o : GObject) (D : List Int) (ho : smallO o) (hD : D.length ≤ 1000000) : EC Tryz.prog 199 [.agg o.c, .int .i64 1, slL 1 (intC .u8) default D] [] fun r B => B = [] ∧ r = .agg (A2Lu8.c { o.Queues with x1 := D }) := by
  have hq0 := ho.2.2.2.2.1
  have hq1 := ho.2.2.2.2.2.1
  refine EC.fin (nA E_ok call_199 Tryz.func199 Tryz.ntmps199 Tryz.results199 ?_)
  (repeat (first | refine stepA ?_ | refine regA E_ok fun fr => ⟨?_⟩))
  (try refine sC ?_)
  exact fin_agg (FzL.two (FzC.row (cells := intC .u8) (d := default) rfl rfl rfl) (FzC.row (cells := intC .u8) (d := default) rfl rfl rfl))
def qR0 (o : GObject) (D : List Int) (s : RowH × RowH) (i : Nat) : SV := .agg [.row i s.1 1 0 D.length, .row (i + 1) s.2 1 0 o.Queues.x1.length]
attribute [push_cast] qR0
theorem ec_ref12_queuesM0 (o : GObject) (D : List Int) (ho : smallO o) (hD : D.length ≤ 1000000) : EC Tryz.prog 199 [.agg o.c, .int .i64 0, slL 1 (intC .u8) default D] [] fun r N => ∃ s : RowH × RowH, True ∧ r = qR0 o D s 0 ∧ N = [.row s.1 5 1 (D.map (intC .u8)), .row s.2 5 1 (o.Queues.x1.map (intC .u8))] := by
  have hq0 := ho.2.2.2.2.1
  have hq1 := ho.2.2.2.2.2.1
  refine EC_tail (EC_tail (EC_tail (EC.ret (nA E_ok call_199 Tryz.func199 Tryz.ntmps199 Tryz.results199 ?_))))
  (repeat (first | refine stepA ?_ | refine regA E_ok fun fr => ⟨?_⟩))
  (try refine sC ?_)
  exact ⟨qR0 o D (_, _) 0, SLe.agg (.cons SLe.row (.cons SLe.row .nil)), _, _, rfl, _, _, rfl, _, _, rfl, (_, _), rfl, rfl⟩
def qR1 (o : GObject) (D : List Int) (s : RowH × RowH) (i : Nat) : SV := .agg [.row (i + 1) s.2 1 0 o.Queues.x0.length, .row i s.1 1 0 D.length]
attribute [push_cast] qR1
theorem ec_ref12_queuesM1 (o : GObject) (D : List Int) (ho : smallO o) (hD : D.length ≤ 1000000) : EC Tryz.prog 199 [.agg o.c, .int .i64 1, slL 1 (intC .u8) default D] [] fun r N => ∃ s : RowH × RowH, True ∧ r = qR1 o D s 0 ∧ N = [.row s.1 5 1 (D.map (intC .u8)), .row s.2 5 1 (o.Queues.x0.map (intC .u8))] := by
  have hq0 := ho.2.2.2.2.1
  have hq1 := ho.2.2.2.2.2.1
  refine EC_tail (EC_tail (EC_tail (EC.ret (nA E_ok call_199 Tryz.func199 Tryz.ntmps199 Tryz.results199 ?_))))
  (repeat (first | refine stepA ?_ | refine regA E_ok fun fr => ⟨?_⟩))
  (try refine sC ?_)
  exact ⟨qR1 o D (_, _) 0, SLe.agg (.cons SLe.row (.cons SLe.row .nil)), _, _, rfl, _, _, rfl, _, _, rfl, (_, _), rfl, rfl⟩
theorem free_map (l : List Int) (k : IntKind) : ∀ x ∈ l.map (intC k), ∀ c ∈ x, freeC c = true := by
  intro x hx c hc
  obtain ⟨y, -, rfl⟩ := List.mem_map.1 hx
  simp only [intC, List.mem_singleton] at hc
  subst hc; rfl
theorem free2 (l m : List Int) (k : IntKind) (s : RowH × RowH) (T : Nat) (i : Nat) : (getD' [Own.row s.1 T 1 (l.map (intC k)), .row s.2 T 1 (m.map (intC k))] i).free := by
  match i with
  | 0 => exact free_map l k
  | 1 => exact free_map m k
  | _ + 2 => trivial
theorem qq_mk2 (o : GObject) (a b : SV) : putL o.c 30 [a, b] = qq o a b := rfl
attribute [push_cast] qq_mk2
theorem ec_ref12_Read0 (o : GObject) (ho : smallO o) : EC Tryz.prog 187 [.agg o.c, .int .i64 0] [] fun r B => B = [] ∧ r = r3c (chanRead o 0) := by
  refine EC.fin (nA E_ok call_187 Tryz.func187 Tryz.ntmps187 Tryz.results187 ?_)
  (repeat (first | refine stepA ?_ | refine regA E_ok fun fr => ⟨?_⟩))
  (try refine regA E_ok fun fr => ⟨?_⟩)
  (refine EC.use (ec_ref12_Valid o ho) ?_; (try simp only [hg]); refine gA E_ok fun fr => ⟨?_⟩)
  refine ⟨fun hg => ?_, fun hg => ?_⟩
  · have h0 : (!chanOk o) = false := by simpa using hg
    (refine EC.use (ec_ref12_end 0) ?_; (try simp only [hg]); refine gA E_ok fun fr => ⟨?_⟩)
    (repeat (first | refine stepA ?_ | refine regA E_ok fun fr => ⟨?_⟩))
    (apply EV_cond; exact rfl; all_goals intro h)
    · simp at h
    clear h
    have hl := chanOk_len h0
    (repeat (first | refine stepA ?_ | refine regA E_ok fun fr => ⟨?_⟩))
    (apply EV_cond; exact rfl; all_goals intro h)
    · have h1 := h
      clear h
      (repeat (first | refine stepA ?_ | refine regA E_ok fun fr => ⟨?_⟩))
      (apply EV_cond; exact rfl; all_goals intro h)
      · (repeat (first | refine stepA ?_ | refine regA E_ok fun fr => ⟨?_⟩))
        ((try refine sC ?_); refine sF ?_; refine SLe.of_eq ?_; (rw [chanRead0]; simp only [h0, h1, h, Bool.and_self, if_true, if_false, Bool.false_eq_true, r3c]))
      · (repeat (first | refine stepA ?_ | refine regA E_ok fun fr => ⟨?_⟩))
        (refine dD E_ok [] [false, true] [0, 1, 2, 3] fol fun R hR => ?_; (repeat intro rh); (try refine sB ⟨?_⟩); (repeat ((with_reducible apply And.intro); exact sdB)); (repeat intro rh); (repeat ((with_reducible apply And.intro); exact sdB)); (try apply_assumption -exfalso))
        (repeat (first | refine stepA ?_ | refine regA E_ok fun fr => ⟨?_⟩))
        ((try refine sC ?_); refine sF ?_; refine SLe.of_eq ?_; (rw [chanRead0]; simp only [h0, h1, h, Bool.and_false, if_true, if_false, Bool.false_eq_true, r3c]))
    have hpos : 0 < o.Queues.x1.length := by simp only [beq_eq_false_iff_ne, ne_eq] at h; omega
    obtain ⟨D, hD, hDl⟩ : ∃ D, List.drop 1 o.Queues.x1 = D ∧ o.Queues.x1.length - 1 = D.length := ⟨_, rfl, by simp⟩
    (repeat (first | refine stepA ?_ | refine regA E_ok fun fr => ⟨?_⟩))
    (refine dD E_ok [7] [false, true] [0, 1, 2, 3, 4, 5, 6, 7] fol fun R hR => ?_; (repeat intro rh); (try refine sB ⟨?_⟩); (repeat ((with_reducible apply And.intro); exact sdB)); (repeat intro rh); (repeat ((with_reducible apply And.intro); exact sdB)); (try apply_assumption -exfalso))
    simp only [hD, hDl]
    (refine EC.use (ec_ref12_queues1 o D ho (by omega)) ?_; (try simp only [hg]); refine dR E_ok [6, 7] ?_; (repeat intro rh); (try refine sB ⟨?_⟩); (repeat ((with_reducible apply And.intro); exact sdB)); (first | apply_assumption -exfalso | (try simp only [thenP])))
    (repeat (first | refine stepA ?_ | refine regA E_ok fun fr => ⟨?_⟩))
    (refine dD E_ok [] [false, true] [0, 1, 2, 3, 4, 5] fol fun R hR => ?_; (repeat intro rh); (try refine sB ⟨?_⟩); (repeat ((with_reducible apply And.intro); exact sdB)); (repeat intro rh); (repeat ((with_reducible apply And.intro); exact sdB)); (try apply_assumption -exfalso))
    (repeat (first | refine stepA ?_ | refine regA E_ok fun fr => ⟨?_⟩))
    ((try refine sC ?_); refine sF ?_; refine SLe.of_eq ?_; (rw [chanRead0]; simp only [h0, h, hD, Bool.false_and, if_false, Bool.false_eq_true, r3c]))
  · ((try simp only [hg]); refine gA E_ok fun fr => ⟨?_⟩)
    (repeat (first | refine stepA ?_ | refine regA E_ok fun fr => ⟨?_⟩))
    (apply EV_cond; exact rfl; all_goals intro h)
    · (repeat (first | refine stepA ?_ | refine regA E_ok fun fr => ⟨?_⟩))
      ((try refine sC ?_); refine sF ?_; refine SLe.of_eq ?_; (rw [chanRead0]; simp only [hg, Bool.not_false, if_true, r3c]))
    · simp at h
theorem ec_ref12_Write0 (o : GObject) (c : Int) (ho : smallO o) : EC Tryz.prog 190 [.agg o.c, .int .i64 0, .int .u8 c] [] fun r B => B = [] ∧ r = r2c (chanWrite o 0 c) := by
  refine EC.fin (nA E_ok call_190 Tryz.func190 Tryz.ntmps190 Tryz.results190 ?_)
  (repeat (first | refine stepA ?_ | refine regA E_ok fun fr => ⟨?_⟩))
  (try refine regA E_ok fun fr => ⟨?_⟩)
  (refine EC.use (ec_ref12_Valid o ho) ?_; (try simp only [hg]); refine gA E_ok fun fr => ⟨?_⟩)
  refine ⟨fun hg => ?_, fun hg => ?_⟩
  · have h0 : (!chanOk o) = false := by simpa using hg
    (refine EC.use (ec_ref12_end 0) ?_; (try simp only [hg]); refine gA E_ok fun fr => ⟨?_⟩)
    (repeat (first | refine stepA ?_ | refine regA E_ok fun fr => ⟨?_⟩))
    (apply EV_cond; exact rfl; all_goals intro h)
    · simp at h
    clear h
    have hl := chanOk_len h0
    (repeat (first | refine stepA ?_ | refine regA E_ok fun fr => ⟨?_⟩))
    (apply EV_cond; exact rfl; all_goals intro h)
    · (repeat (first | refine stepA ?_ | refine regA E_ok fun fr => ⟨?_⟩))
      ((try refine sC ?_); refine sF ?_; refine SLe.of_eq ?_; (rw [chanWrite0]; simp only [h0, h, if_true, if_false, Bool.false_eq_true, r2c]))
    have h1 := h
    clear h
    have e64 : decide (64 ≤ (o.Queues.x0.length : Int)) = ((o.Queues.x0.length : Int) == 64) := by
      apply Bool.eq_iff_iff.2; simp; omega
    (repeat (first | refine stepA ?_ | refine regA E_ok fun fr => ⟨?_⟩))
    (apply EV_cond; exact rfl; all_goals intro h)
    · rw [e64] at h
      (repeat (first | refine stepA ?_ | refine regA E_ok fun fr => ⟨?_⟩))
      ((try refine sC ?_); refine sF ?_; refine SLe.of_eq ?_; (rw [chanWrite0]; simp only [h0, h1, h, if_true, if_false, Bool.false_eq_true, r2c]))
    rw [e64] at h
    (repeat (first | refine stepA ?_ | refine regA E_ok fun fr => ⟨?_⟩))
    (refine dV E_ok 6 [12] [false, true] [0, 1, 2, 3, 4, 5, 7] fol fun R hR => ?_; (try refine sB ⟨?_⟩); (repeat ((with_reducible apply And.intro); exact sdB)))
    refine ej2 E_ok 6 8 ?_ ?_
    · (intro rh; (repeat ((with_reducible apply And.intro); exact sdB)); refine dR E_ok [8, 9, 10, 11, 12] ?_; (repeat ((with_reducible apply And.intro); exact sdB)))
      intro h3 h4
      refine ⟨by omega, ?_⟩
      refine EC.lendN (ec_ref12_queuesM0 o (o.Queues.x0 ++ [c]) ho (by simp; omega)) (LFz.objc (LFz.int (LFz.rowL (l := o.Queues.x0 ++ [c]) rfl rfl (show o.Queues.x0.length + 1 = (o.Queues.x0 ++ [c]).length by simp) .nil))) (fun _ => rfl) (fun s i => free2 _ _ _ s _ i) (fun _ _ => SLe.agg (.cons SLe.row (.cons SLe.row .nil))) ?_
      rintro ⟨a, b⟩ -
      (skip; refine dR E_ok [11, 12] ?_; (repeat intro rh); (try refine sB ⟨?_⟩); (repeat ((with_reducible apply And.intro); exact sdB)); (first | apply_assumption -exfalso | (try simp only [thenP])))
      (repeat (first | refine stepA ?_ | refine regA E_ok fun fr => ⟨?_⟩))
      (try refine sC ?_)
      rw [show r2c (chanWrite o 0 c) = .tup [.agg (GObject.c { o with Queues := { o.Queues with x0 := o.Queues.x0 ++ [c] } }), .int .i64 0] by rw [chanWrite0]; simp only [h0, h1, h, if_false, Bool.false_eq_true, r2c]]
      unfold qq
      exact fin_t2 (.agg (((FzL.O _).put 30 (FzC.row (cells := intC .u8) (d := default) rfl rfl (by simp)) (GObject.p30 _ _)).put 31 (FzC.row (cells := intC .u8) (d := default) rfl rfl (by simp)) (GObject.p31 _ _))) .int
    · (intro rh; (repeat ((with_reducible apply And.intro); exact sdB)); refine dR E_ok [6, 9, 10, 11, 12] ?_; (repeat ((with_reducible apply And.intro); exact sdB)))
      intro h3
      refine ⟨by omega, ?_⟩
      intro h4
      refine ⟨by omega, ?_⟩
      refine EC.lendN (ec_ref12_queuesM0 o (o.Queues.x0 ++ [c]) ho (by simp; omega)) (LFz.objc (LFz.int (LFz.rowL (l := o.Queues.x0 ++ [c]) rfl rfl (show o.Queues.x0.length + 1 = (o.Queues.x0 ++ [c]).length by simp) .nil))) (fun _ => rfl) (fun s i => free2 _ _ _ s _ i) (fun _ _ => SLe.agg (.cons SLe.row (.cons SLe.row .nil))) ?_
      rintro ⟨a, b⟩ -
      (skip; refine dR E_ok [11, 12] ?_; (repeat intro rh); (try refine sB ⟨?_⟩); (repeat ((with_reducible apply And.intro); exact sdB)); (first | apply_assumption -exfalso | (try simp only [thenP])))
      (repeat (first | refine stepA ?_ | refine regA E_ok fun fr => ⟨?_⟩))
      (try refine sC ?_)
      rw [show r2c (chanWrite o 0 c) = .tup [.agg (GObject.c { o with Queues := { o.Queues with x0 := o.Queues.x0 ++ [c] } }), .int .i64 0] by rw [chanWrite0]; simp only [h0, h1, h, if_false, Bool.false_eq_true, r2c]]
      unfold qq
      exact fin_t2 (.agg (((FzL.O _).put 30 (FzC.row (cells := intC .u8) (d := default) rfl rfl (by simp)) (GObject.p30 _ _)).put 31 (FzC.row (cells := intC .u8) (d := default) rfl rfl (by simp)) (GObject.p31 _ _))) .int
  · ((try simp only [hg]); refine gA E_ok fun fr => ⟨?_⟩)
    (repeat (first | refine stepA ?_ | refine regA E_ok fun fr => ⟨?_⟩))
    (apply EV_cond; exact rfl; all_goals intro h)
    · (repeat (first | refine stepA ?_ | refine regA E_ok fun fr => ⟨?_⟩))
      ((try refine sC ?_); refine sF ?_; refine SLe.of_eq ?_; (rw [chanWrite0]; simp only [hg, Bool.not_false, if_true, r2c]))
    · simp at h
theorem ec_ref12_Read1 (o : GObject) (ho : smallO o) : EC Tryz.prog 187 [.agg o.c, .int .i64 1] [] fun r B => B = [] ∧ r = r3c (chanRead o 1) := by
  refine EC.fin (nA E_ok call_187 Tryz.func187 Tryz.ntmps187 Tryz.results187 ?_)
  (repeat (first | refine stepA ?_ | refine regA E_ok fun fr => ⟨?_⟩))
  (try refine regA E_ok fun fr => ⟨?_⟩)
  (refine EC.use (ec_ref12_Valid o ho) ?_; (try simp only [hg]); refine gA E_ok fun fr => ⟨?_⟩)
  refine ⟨fun hg => ?_, fun hg => ?_⟩
  · have h0 : (!chanOk o) = false := by simpa using hg
    (refine EC.use (ec_ref12_end 1) ?_; (try simp only [hg]); refine gA E_ok fun fr => ⟨?_⟩)
    (repeat (first | refine stepA ?_ | refine regA E_ok fun fr => ⟨?_⟩))
    (apply EV_cond; exact rfl; all_goals intro h)
    · simp at h
    clear h
    have hl := chanOk_len h0
    (repeat (first | refine stepA ?_ | refine regA E_ok fun fr => ⟨?_⟩))
    (apply EV_cond; exact rfl; all_goals intro h)
    · have h1 := h
      clear h
      (repeat (first | refine stepA ?_ | refine regA E_ok fun fr => ⟨?_⟩))
      (apply EV_cond; exact rfl; all_goals intro h)
      · (repeat (first | refine stepA ?_ | refine regA E_ok fun fr => ⟨?_⟩))
        ((try refine sC ?_); refine sF ?_; refine SLe.of_eq ?_; (rw [chanRead1]; simp only [h0, h1, h, Bool.and_self, if_true, if_false, Bool.false_eq_true, r3c]))
      · (repeat (first | refine stepA ?_ | refine regA E_ok fun fr => ⟨?_⟩))
        (refine dD E_ok [] [false, true] [0, 1, 2, 3] fol fun R hR => ?_; (repeat intro rh); (try refine sB ⟨?_⟩); (repeat ((with_reducible apply And.intro); exact sdB)); (repeat intro rh); (repeat ((with_reducible apply And.intro); exact sdB)); (try apply_assumption -exfalso))
        (repeat (first | refine stepA ?_ | refine regA E_ok fun fr => ⟨?_⟩))
        ((try refine sC ?_); refine sF ?_; refine SLe.of_eq ?_; (rw [chanRead1]; simp only [h0, h1, h, Bool.and_false, if_true, if_false, Bool.false_eq_true, r3c]))
    have hpos : 0 < o.Queues.x0.length := by simp only [beq_eq_false_iff_ne, ne_eq] at h; omega
    obtain ⟨D, hD, hDl⟩ : ∃ D, List.drop 1 o.Queues.x0 = D ∧ o.Queues.x0.length - 1 = D.length := ⟨_, rfl, by simp⟩
    (repeat (first | refine stepA ?_ | refine regA E_ok fun fr => ⟨?_⟩))
    (refine dD E_ok [7] [false, true] [0, 1, 2, 3, 4, 5, 6, 7] fol fun R hR => ?_; (repeat intro rh); (try refine sB ⟨?_⟩); (repeat ((with_reducible apply And.intro); exact sdB)); (repeat intro rh); (repeat ((with_reducible apply And.intro); exact sdB)); (try apply_assumption -exfalso))
    simp only [hD, hDl]
    (refine EC.use (ec_ref12_queues0 o D ho (by omega)) ?_; (try simp only [hg]); refine dR E_ok [6, 7] ?_; (repeat intro rh); (try refine sB ⟨?_⟩); (repeat ((with_reducible apply And.intro); exact sdB)); (first | apply_assumption -exfalso | (try simp only [thenP])))
    (repeat (first | refine stepA ?_ | refine regA E_ok fun fr => ⟨?_⟩))
    (refine dD E_ok [] [false, true] [0, 1, 2, 3, 4, 5] fol fun R hR => ?_; (repeat intro rh); (try refine sB ⟨?_⟩); (repeat ((with_reducible apply And.intro); exact sdB)); (repeat intro rh); (repeat ((with_reducible apply And.intro); exact sdB)); (try apply_assumption -exfalso))
    (repeat (first | refine stepA ?_ | refine regA E_ok fun fr => ⟨?_⟩))
    ((try refine sC ?_); refine sF ?_; refine SLe.of_eq ?_; (rw [chanRead1]; simp only [h0, h, hD, Bool.false_and, if_false, Bool.false_eq_true, r3c]))
  · ((try simp only [hg]); refine gA E_ok fun fr => ⟨?_⟩)
    (repeat (first | refine stepA ?_ | refine regA E_ok fun fr => ⟨?_⟩))
    (apply EV_cond; exact rfl; all_goals intro h)
    · (repeat (first | refine stepA ?_ | refine regA E_ok fun fr => ⟨?_⟩))
      ((try refine sC ?_); refine sF ?_; refine SLe.of_eq ?_; (rw [chanRead1]; simp only [hg, Bool.not_false, if_true, r3c]))
    · simp at h
theorem ec_ref12_Write1 (o : GObject) (c : Int) (ho : smallO o) : EC Tryz.prog 190 [.agg o.c, .int .i64 1, .int .u8 c] [] fun r B => B = [] ∧ r = r2c (chanWrite o 1 c) := by
  refine EC.fin (nA E_ok call_190 Tryz.func190 Tryz.ntmps190 Tryz.results190 ?_)
  (repeat (first | refine stepA ?_ | refine regA E_ok fun fr => ⟨?_⟩))
  (try refine regA E_ok fun fr => ⟨?_⟩)
  (refine EC.use (ec_ref12_Valid o ho) ?_; (try simp only [hg]); refine gA E_ok fun fr => ⟨?_⟩)
  refine ⟨fun hg => ?_, fun hg => ?_⟩
  · have h0 : (!chanOk o) = false := by simpa using hg
    (refine EC.use (ec_ref12_end 1) ?_; (try simp only [hg]); refine gA E_ok fun fr => ⟨?_⟩)
    (repeat (first | refine stepA ?_ | refine regA E_ok fun fr => ⟨?_⟩))
    (apply EV_cond; exact rfl; all_goals intro h)
    · simp at h
    clear h
    have hl := chanOk_len h0
    (repeat (first | refine stepA ?_ | refine regA E_ok fun fr => ⟨?_⟩))
    (apply EV_cond; exact rfl; all_goals intro h)
    · (repeat (first | refine stepA ?_ | refine regA E_ok fun fr => ⟨?_⟩))
      ((try refine sC ?_); refine sF ?_; refine SLe.of_eq ?_; (rw [chanWrite1]; simp only [h0, h, if_true, if_false, Bool.false_eq_true, r2c]))
    have h1 := h
    clear h
    have e64 : decide (64 ≤ (o.Queues.x1.length : Int)) = ((o.Queues.x1.length : Int) == 64) := by
      apply Bool.eq_iff_iff.2; simp; omega
    (repeat (first | refine stepA ?_ | refine regA E_ok fun fr => ⟨?_⟩))
    (apply EV_cond; exact rfl; all_goals intro h)
    · rw [e64] at h
      (repeat (first | refine stepA ?_ | refine regA E_ok fun fr => ⟨?_⟩))
      ((try refine sC ?_); refine sF ?_; refine SLe.of_eq ?_; (rw [chanWrite1]; simp only [h0, h1, h, if_true, if_false, Bool.false_eq_true, r2c]))
    rw [e64] at h
    (repeat (first | refine stepA ?_ | refine regA E_ok fun fr => ⟨?_⟩))
    (refine dV E_ok 6 [12] [false, true] [0, 1, 2, 3, 4, 5, 7] fol fun R hR => ?_; (try refine sB ⟨?_⟩); (repeat ((with_reducible apply And.intro); exact sdB)))
    refine ej2 E_ok 6 8 ?_ ?_
    · (intro rh; (repeat ((with_reducible apply And.intro); exact sdB)); refine dR E_ok [8, 9, 10, 11, 12] ?_; (repeat ((with_reducible apply And.intro); exact sdB)))
      intro h3 h4
      refine ⟨by omega, ?_⟩
      refine EC.lendN (ec_ref12_queuesM1 o (o.Queues.x1 ++ [c]) ho (by simp; omega)) (LFz.objc (LFz.int (LFz.rowL (l := o.Queues.x1 ++ [c]) rfl rfl (show o.Queues.x1.length + 1 = (o.Queues.x1 ++ [c]).length by simp) .nil))) (fun _ => rfl) (fun s i => free2 _ _ _ s _ i) (fun _ _ => SLe.agg (.cons SLe.row (.cons SLe.row .nil))) ?_
      rintro ⟨a, b⟩ -
      (skip; refine dR E_ok [11, 12] ?_; (repeat intro rh); (try refine sB ⟨?_⟩); (repeat ((with_reducible apply And.intro); exact sdB)); (first | apply_assumption -exfalso | (try simp only [thenP])))
      (repeat (first | refine stepA ?_ | refine regA E_ok fun fr => ⟨?_⟩))
      (try refine sC ?_)
      rw [show r2c (chanWrite o 1 c) = .tup [.agg (GObject.c { o with Queues := { o.Queues with x1 := o.Queues.x1 ++ [c] } }), .int .i64 0] by rw [chanWrite1]; simp only [h0, h1, h, if_false, Bool.false_eq_true, r2c]]
      unfold qq
      exact fin_t2 (.agg (((FzL.O _).put 30 (FzC.row (cells := intC .u8) (d := default) rfl rfl (by simp)) (GObject.p30 _ _)).put 31 (FzC.row (cells := intC .u8) (d := default) rfl rfl (by simp)) (GObject.p31 _ _))) .int
    · (intro rh; (repeat ((with_reducible apply And.intro); exact sdB)); refine dR E_ok [6, 9, 10, 11, 12] ?_; (repeat ((with_reducible apply And.intro); exact sdB)))
      intro h3
      refine ⟨by omega, ?_⟩
      intro h4
      refine ⟨by omega, ?_⟩
      refine EC.lendN (ec_ref12_queuesM1 o (o.Queues.x1 ++ [c]) ho (by simp; omega)) (LFz.objc (LFz.int (LFz.rowL (l := o.Queues.x1 ++ [c]) rfl rfl (show o.Queues.x1.length + 1 = (o.Queues.x1 ++ [c]).length by simp) .nil))) (fun _ => rfl) (fun s i => free2 _ _ _ s _ i) (fun _ _ => SLe.agg (.cons SLe.row (.cons SLe.row .nil))) ?_
      rintro ⟨a, b⟩ -
      (skip; refine dR E_ok [11, 12] ?_; (repeat intro rh); (try refine sB ⟨?_⟩); (repeat ((with_reducible apply And.intro); exact sdB)); (first | apply_assumption -exfalso | (try simp only [thenP])))
      (repeat (first | refine stepA ?_ | refine regA E_ok fun fr => ⟨?_⟩))
      (try refine sC ?_)
      rw [show r2c (chanWrite o 1 c) = .tup [.agg (GObject.c { o with Queues := { o.Queues with x1 := o.Queues.x1 ++ [c] } }), .int .i64 0] by rw [chanWrite1]; simp only [h0, h1, h, if_false, Bool.false_eq_true, r2c]]
      unfold qq
      exact fin_t2 (.agg (((FzL.O _).put 30 (FzC.row (cells := intC .u8) (d := default) rfl rfl (by simp)) (GObject.p30 _ _)).put 31 (FzC.row (cells := intC .u8) (d := default) rfl rfl (by simp)) (GObject.p31 _ _))) .int
  · ((try simp only [hg]); refine gA E_ok fun fr => ⟨?_⟩)
    (repeat (first | refine stepA ?_ | refine regA E_ok fun fr => ⟨?_⟩))
    (apply EV_cond; exact rfl; all_goals intro h)
    · (repeat (first | refine stepA ?_ | refine regA E_ok fun fr => ⟨?_⟩))
      ((try refine sC ?_); refine sF ?_; refine SLe.of_eq ?_; (rw [chanWrite1]; simp only [hg, Bool.not_false, if_true, r2c]))
    · simp at h
theorem ec_ref12_Read (o : GObject) (k : Int) (ho : smallO o) : EC Tryz.prog 187 [.agg o.c, .int .i64 k] [] fun r B => B = [] ∧ r = r3c (chanRead o k) := by
  by_cases h0 : k = 0
  · subst h0; exact ec_ref12_Read0 o ho
  by_cases h1 : k = 1
  · subst h1; exact ec_ref12_Read1 o ho
  have hb : (!chanOk o || (k != 0 && k != 1)) = true := by simp [h0, h1]
  refine EC.fin (nA E_ok call_187 Tryz.func187 Tryz.ntmps187 Tryz.results187 ?_)
  (repeat (first | refine stepA ?_ | refine regA E_ok fun fr => ⟨?_⟩))
  (try refine regA E_ok fun fr => ⟨?_⟩)
  (refine EC.use (ec_ref12_Valid o ho) ?_; (try simp only [hg]); refine gA E_ok fun fr => ⟨?_⟩)
  refine ⟨fun hg => ?_, fun hg => ?_⟩
  · (refine EC.use (ec_ref12_end k) ?_; (try simp only [hg]); refine gA E_ok fun fr => ⟨?_⟩)
    (repeat (first | refine stepA ?_ | refine regA E_ok fun fr => ⟨?_⟩))
    (apply EV_cond; exact rfl; all_goals intro h)
    · (repeat (first | refine stepA ?_ | refine regA E_ok fun fr => ⟨?_⟩))
      ((try refine sC ?_); refine sF ?_; refine SLe.of_eq ?_; (simp only [chanRead, hb, if_true, r3c]))
    · exfalso; simp [h0, h1] at h
  · ((try simp only [hg]); refine gA E_ok fun fr => ⟨?_⟩)
    (repeat (first | refine stepA ?_ | refine regA E_ok fun fr => ⟨?_⟩))
    (apply EV_cond; exact rfl; all_goals intro h)
    · (repeat (first | refine stepA ?_ | refine regA E_ok fun fr => ⟨?_⟩))
      ((try refine sC ?_); refine sF ?_; refine SLe.of_eq ?_; (simp only [chanRead, hb, if_true, r3c]))
    · simp at h
theorem ec_ref12_Write (o : GObject) (k : Int) (c : Int) (ho : smallO o) : EC Tryz.prog 190 [.agg o.c, .int .i64 k, .int .u8 c] [] fun r B => B = [] ∧ r = r2c (chanWrite o k c) := by
  by_cases h0 : k = 0
  · subst h0; exact ec_ref12_Write0 o c ho
  by_cases h1 : k = 1
  · subst h1; exact ec_ref12_Write1 o c ho
  have hb : (!chanOk o || (k != 0 && k != 1)) = true := by simp [h0, h1]
  refine EC.fin (nA E_ok call_190 Tryz.func190 Tryz.ntmps190 Tryz.results190 ?_)
  (repeat (first | refine stepA ?_ | refine regA E_ok fun fr => ⟨?_⟩))
  (try refine regA E_ok fun fr => ⟨?_⟩)
  (refine EC.use (ec_ref12_Valid o ho) ?_; (try simp only [hg]); refine gA E_ok fun fr => ⟨?_⟩)
  refine ⟨fun hg => ?_, fun hg => ?_⟩
  · (refine EC.use (ec_ref12_end k) ?_; (try simp only [hg]); refine gA E_ok fun fr => ⟨?_⟩)
    (repeat (first | refine stepA ?_ | refine regA E_ok fun fr => ⟨?_⟩))
    (apply EV_cond; exact rfl; all_goals intro h)
    · (repeat (first | refine stepA ?_ | refine regA E_ok fun fr => ⟨?_⟩))
      ((try refine sC ?_); refine sF ?_; refine SLe.of_eq ?_; (simp only [chanWrite, hb, if_true, r2c]))
    · exfalso; simp [h0, h1] at h
  · ((try simp only [hg]); refine gA E_ok fun fr => ⟨?_⟩)
    (repeat (first | refine stepA ?_ | refine regA E_ok fun fr => ⟨?_⟩))
    (apply EV_cond; exact rfl; all_goals intro h)
    · (repeat (first | refine stepA ?_ | refine regA E_ok fun fr => ⟨?_⟩))
      ((try refine sC ?_); refine sF ?_; refine SLe.of_eq ?_; (simp only [chanWrite, hb, if_true, r2c]))
    · simp at h
end Go.Proofs.YtfmldmafigpblaaGreatDoor
end
section
namespace Go.Proofs.YtfmldmafigpblaaGreatDoor
open Go.Lift
set_option linter.unusedSimpArgs false
set_option linter.unusedVariables false
set_option maxRecDepth 10000
end Go.Proofs.YtfmldmafigpblaaGreatDoor
end
section
namespace Go.Proofs.YtfmldmafigpblaaGreatDoor
open Go.Lift
set_option linter.unusedSimpArgs false
set_option linter.unusedVariables false
set_option maxRecDepth 10000
def semOk (o : GObject) : Bool := o.Kind == 8 && !(o.ID == 0) && decide (0 ≤ o.Count) && decide (o.Count ≤ 1073741824) && onlyB o 2048
theorem ec_ref13_Valid (o : GObject) : EC Tryz.prog 191 [.agg o.c] [] fun r B => B = [] ∧ r = .bool (semOk o) := by
  refine EC.fin (nA E_ok call_191 Tryz.func191 Tryz.ntmps191 Tryz.results191 ?_)
  (repeat (first | refine stepA ?_ | refine regA E_ok fun fr => ⟨?_⟩))
  (try refine regA E_ok fun fr => ⟨?_⟩)
  refine ⟨fun hg => ?_, fun hg => ?_⟩
  · (refine EC.use (ec_ref06_Bare { o with Count := 0 }) ?_; (try simp only [hg]); refine gA E_ok fun fr => ⟨?_⟩)
    (repeat (first | refine stepA ?_ | refine regA E_ok fun fr => ⟨?_⟩))
    ((try refine sC ?_); refine sF ?_; refine SLe.of_eq ?_; (simp only [semOk, ← bne_eq, hg, dev_bare]; (try rfl)))
  · ((try simp only [hg]); refine gA E_ok fun fr => ⟨?_⟩)
    (repeat (first | refine stepA ?_ | refine regA E_ok fun fr => ⟨?_⟩))
    ((try refine sC ?_); refine sF ?_; refine SLe.of_eq ?_; (simp only [semOk, ← bne_eq, hg]; (try rfl)))
def semDown (o : GObject) : GObject × Int := if (!semOk o) = true then (default, 1) else if (o.Count == 0) = true then (default, 12) else ({ o with Count := o.Count - 1 }, 0)
def semUp (o : GObject) : GObject × Int := if (!semOk o) = true then (default, 1) else if (o.Count == 1073741824) = true then (default, 3) else ({ o with Count := o.Count + 1 }, 0)
def r2s (x : GObject × Int) : SV := .tup [.agg x.1.c, .int .i64 x.2]
theorem semOk_range {o : GObject} (h : (!semOk o) = false) : 0 ≤ o.Count ∧ o.Count ≤ 1073741824 := by
  simp [semOk] at h; omega
theorem ec_ref13_Down (o : GObject) : EC Tryz.prog 174 [.agg o.c] [] fun r B => B = [] ∧ r = r2s (semDown o) := by
  refine EC.fin (nA E_ok call_174 Tryz.func174 Tryz.ntmps174 Tryz.results174 ?_)
  (repeat (first | refine stepA ?_ | refine regA E_ok fun fr => ⟨?_⟩))
  (try refine regA E_ok fun fr => ⟨?_⟩)
  (refine EC.use (ec_ref13_Valid o) ?_; (try simp only [hg]); refine gA E_ok fun fr => ⟨?_⟩)
  (repeat (first | refine stepA ?_ | refine regA E_ok fun fr => ⟨?_⟩))
  (apply EV_cond; exact rfl; all_goals intro h)
  · (repeat (first | refine stepA ?_ | refine regA E_ok fun fr => ⟨?_⟩))
    ((try refine sC ?_); refine sF ?_; refine SLe.of_eq ?_; (simp only [semDown, h, if_true, r2s]))
  have h0 := h
  clear h
  (repeat (first | refine stepA ?_ | refine regA E_ok fun fr => ⟨?_⟩))
  (apply EV_cond; exact rfl; all_goals intro h)
  · (repeat (first | refine stepA ?_ | refine regA E_ok fun fr => ⟨?_⟩))
    ((try refine sC ?_); refine sF ?_; refine SLe.of_eq ?_; (simp only [semDown, h0, h, if_true, if_false, Bool.false_eq_true, r2s]))
  · have hr := semOk_range h0
    (repeat (first | refine stepA ?_ | refine regA E_ok fun fr => ⟨?_⟩))
    ((try refine sC ?_); refine sF ?_; refine SLe.of_eq ?_; (simp only [semDown, h0, h, if_true, if_false, Bool.false_eq_true, r2s]))
theorem ec_ref13_Up (o : GObject) : EC Tryz.prog 175 [.agg o.c] [] fun r B => B = [] ∧ r = r2s (semUp o) := by
  refine EC.fin (nA E_ok call_175 Tryz.func175 Tryz.ntmps175 Tryz.results175 ?_)
  (repeat (first | refine stepA ?_ | refine regA E_ok fun fr => ⟨?_⟩))
  (try refine regA E_ok fun fr => ⟨?_⟩)
  (refine EC.use (ec_ref13_Valid o) ?_; (try simp only [hg]); refine gA E_ok fun fr => ⟨?_⟩)
  (repeat (first | refine stepA ?_ | refine regA E_ok fun fr => ⟨?_⟩))
  (apply EV_cond; exact rfl; all_goals intro h)
  · (repeat (first | refine stepA ?_ | refine regA E_ok fun fr => ⟨?_⟩))
    ((try refine sC ?_); refine sF ?_; refine SLe.of_eq ?_; (simp only [semUp, h, if_true, r2s]))
  have h0 := h
  clear h
  (repeat (first | refine stepA ?_ | refine regA E_ok fun fr => ⟨?_⟩))
  (apply EV_cond; exact rfl; all_goals intro h)
  · (repeat (first | refine stepA ?_ | refine regA E_ok fun fr => ⟨?_⟩))
    ((try refine sC ?_); refine sF ?_; refine SLe.of_eq ?_; (simp only [semUp, h0, h, if_true, if_false, Bool.false_eq_true, r2s]))
  · have hr := semOk_range h0
    (repeat (first | refine stepA ?_ | refine regA E_ok fun fr => ⟨?_⟩))
    ((try refine sC ?_); refine sF ?_; refine SLe.of_eq ?_; (simp only [semUp, h0, h, if_true, if_false, Bool.false_eq_true, r2s]))
end Go.Proofs.YtfmldmafigpblaaGreatDoor
end
section
namespace Go.Proofs.YtfmldmafigpblaaGreatDoor
open Go.Lift
set_option linter.unusedSimpArgs false
set_option linter.unusedVariables false
set_option maxRecDepth 10000
attribute [local irreducible] EC EV
def plainB : List SV → Bool
  | [] => true
  | .row .. :: _ => false
  | .rptr .. :: _ => false
  | .om .. :: _ => false
  | _ :: r => plainB r
theorem plain_frz (sel : Nat → Bool) (B : List Own) : ∀ cs : List SV, plainB cs = true → frzL sel B cs = cs ∧ frzKL sel B cs
  | [], _ => ⟨rfl, trivial⟩
  | s :: r, h => by
    have hr : plainB r = true := by cases s <;> first | exact h | (simp [plainB] at h)
    have := plain_frz sel B r hr
    cases s <;> first | (simp [plainB] at h; done) | exact ⟨congrArg _ this.1, trivial, this.2⟩
theorem FzL.pl {B : List Own} {cs : List SV} (h : plainB cs = true) : FzL B cs cs := ⟨(plain_frz _ B cs h).2, by rw [(plain_frz _ B cs h).1]; exact LLe.refl _⟩
theorem Lt.aggE {B : List Own} {α : Type} {c : α → List SV} {x y : α} (h : x = y) (hs : plainB (c y) = true) : Lt B (.agg (c x)) (.agg (c y)) := by subst h; exact Lt.agg (FzL.pl hs)
theorem FzA.aggE {B : List Own} {α : Type} {c : α → List SV} {x y : α} (h : x = y) (hs : plainB (c y) = true) : FzA B (.agg (c x)) (.agg (c y)) := by subst h; exact FzA.agg (FzL.pl hs)
def GCPU.at (c : GCPU) (k : Nat) : Int := [c.Regs.x0, c.Regs.x1, c.Regs.x2, c.Regs.x3, c.Regs.x4, c.Regs.x5, c.Regs.x6, c.Regs.x7].getD k 0
def GCPU.put (c : GCPU) (k : Nat) (v : Int) : GCPU := { c with Regs := ⟨if k = 0 then v else c.Regs.x0, if k = 1 then v else c.Regs.x1, if k = 2 then v else c.Regs.x2, if k = 3 then v else c.Regs.x3, if k = 4 then v else c.Regs.x4, if k = 5 then v else c.Regs.x5, if k = 6 then v else c.Regs.x6, if k = 7 then v else c.Regs.x7⟩ }
theorem lt8 {k : Nat} (h : k < 8) : k = 0 ∨ k = 1 ∨ k = 2 ∨ k = 3 ∨ k = 4 ∨ k = 5 ∨ k = 6 ∨ k = 7 := by omega
theorem GCPU.ga (c : GCPU) {k : Nat} (d : SV) (h : k < 8) : c.c.getD (1 + k) d = .int .i64 (c.at k) := by
  rcases lt8 h with rfl | rfl | rfl | rfl | rfl | rfl | rfl | rfl <;> rfl
theorem GCPU.pa (c : GCPU) {k : Nat} (v : Int) (h : k < 8) : putL c.c (1 + k) [.int .i64 v] = (c.put k v).c := by
  rcases lt8 h with rfl | rfl | rfl | rfl | rfl | rfl | rfl | rfl <;> rfl
def regB (n : Int) : Bool := decide (0 ≤ n) && decide (n < 8)
theorem ec_ref05_register (n : Int) : EC Tryz.prog 133 [.int .i64 n] [] fun r N => N = [] ∧ r = .bool (regB n) := by
  refine EC.finK ?_
  (refine nK E_ok call_133 Tryz.func133 Tryz.ntmps133 Tryz.results133 ?_)
  (repeat' (first | refine eK E_ok ?_ | refine zL ?_ | apply Lt.t2 | apply Lt.t3 | apply Lt.t4 | apply Lt.aggE | apply FzA.aggE | (with_reducible intro _) | with_reducible apply And.intro | exact trivial)) <;> (first | exact zA | exact ([] : List Own) | (simp [regB, *]; done) | (simp_all [regB]; done) | skip)
theorem ec_ref05_truth (b : Bool) : EC Tryz.prog 155 [.bool b] [] fun r N => N = [] ∧ r = .int .i64 (if b then 1 else 0) := by
  refine EC.finK ?_
  (refine nK E_ok call_155 Tryz.func155 Tryz.ntmps155 Tryz.results155 ?_)
  (repeat' (first | refine eK E_ok ?_ | refine zL ?_ | apply Lt.t2 | apply Lt.t3 | apply Lt.t4 | apply Lt.aggE | apply FzA.aggE | (with_reducible intro _) | with_reducible apply And.intro | exact trivial)) <;> (first | exact zA | exact ([] : List Own) | skip)
def r2a (x : GCPU × GAction) : SV := .tup [.agg x.1.c, .agg x.2.c]
attribute [push_cast] r2a
def actF : GAction := { (default : GAction) with Kind := 4 }
theorem ec_ref05_fault (c : GCPU) : EC Tryz.prog 131 [.agg c.c] [] fun r N => N = [] ∧ r = r2a (c, actF) := by
  refine EC.finK ?_
  (refine nK E_ok call_131 Tryz.func131 Tryz.ntmps131 Tryz.results131 ?_)
  (repeat' (first | refine eK E_ok ?_ | refine zL ?_ | apply Lt.t2 | apply Lt.t3 | apply Lt.t4 | apply Lt.aggE | apply FzA.aggE | (with_reducible intro _) | with_reducible apply And.intro | exact trivial)) <;> (first | exact zA | exact ([] : List Own) | (simp [actF, *]; done) | (simp_all [actF]; done) | skip)
def storedC (c : GCPU) : GCPU := { c with PC := IntKind.i64.wrap (c.PC + 1) }
theorem ec_ref05_Stored (c : GCPU) : EC Tryz.prog 132 [.agg c.c] [] fun r N => N = [] ∧ r = .agg (storedC c).c := by
  refine EC.finK ?_
  (refine nK E_ok call_132 Tryz.func132 Tryz.ntmps132 Tryz.results132 ?_)
  (repeat' (first | refine eK E_ok ?_ | refine zL ?_ | apply Lt.t2 | apply Lt.t3 | apply Lt.t4 | apply Lt.aggE | apply FzA.aggE | (with_reducible intro _) | with_reducible apply And.intro | exact trivial)) <;> (first | exact zA | exact ([] : List Own) | (simp [storedC, *]; done) | (simp_all [storedC]; done) | skip)
def loadedC (c : GCPU) (reg v : Int) : GCPU := storedC (if regB reg then c.put reg.toNat v else c)
theorem ec_ref05_Loaded (c : GCPU) (reg v : Int) : EC Tryz.prog 134 [.agg c.c, .int .i64 reg, .int .i64 v] [] fun r N => N = [] ∧ r = .agg (loadedC c reg v).c := by
  refine EC.finK ?_
  (refine nK E_ok call_134 Tryz.func134 Tryz.ntmps134 Tryz.results134 ?_)
  intro fr
  (refine EC.use (ec_ref05_register reg) ?_; refine eK E_ok ?_)
  refine ⟨fun h => ?_, fun h => ?_⟩
  · have hr : 0 ≤ reg ∧ reg < 8 := by simpa [regB] using h
    have hl : loadedC c reg v = storedC (c.put reg.toNat v) := by simp [loadedC, h]
    rw [hl, GCPU.pa c v (by omega)]
    simp only [push_cast, simprocAttr]
    (repeat refine sd ?_)
    (repeat' (first | refine eK E_ok ?_ | refine EC.use (ec_ref05_Stored _) ?_ | refine zL ?_ | apply Lt.t2 | apply Lt.t3 | apply Lt.t4 | apply Lt.aggE | apply FzA.aggE | (with_reducible intro _) | with_reducible apply And.intro | exact trivial)) <;> (first | exact zA | exact ([] : List Own) | skip)
  · have hl : loadedC c reg v = storedC c := by simp [loadedC, h]
    rw [hl]
    (repeat' (first | refine eK E_ok ?_ | refine EC.use (ec_ref05_Stored _) ?_ | refine zL ?_ | apply Lt.t2 | apply Lt.t3 | apply Lt.t4 | apply Lt.aggE | apply FzA.aggE | (with_reducible intro _) | with_reducible apply And.intro | exact trivial)) <;> (first | exact zA | exact ([] : List Own) | skip)
theorem ec_ref05_Returned (c : GCPU) (v : Int) : EC Tryz.prog 122 [.agg c.c, .int .i64 v] [] fun r N => N = [] ∧ r = .agg (loadedC c 0 v).c := by
  refine EC.finK ?_
  (refine nK E_ok call_122 Tryz.func122 Tryz.ntmps122 Tryz.results122 ?_)
  (repeat' (first | refine eK E_ok ?_ | refine EC.use (ec_ref05_Loaded _ _ _) ?_ | refine zL ?_ | apply Lt.t2 | apply Lt.t3 | apply Lt.t4 | apply Lt.aggE | apply FzA.aggE | (with_reducible intro _) | with_reducible apply And.intro | exact trivial)) <;> (first | exact zA | exact ([] : List Own) | skip)
def ret2C (c : GCPU) (r0 r1 : Int) : GCPU := loadedC { c with Regs := { c.Regs with x1 := r1 } } 0 r0
theorem ec_ref05_Returned2 (c : GCPU) (r0 r1 : Int) : EC Tryz.prog 123 [.agg c.c, .int .i64 r0, .int .i64 r1] [] fun r N => N = [] ∧ r = .agg (ret2C c r0 r1).c := by
  refine EC.finK ?_
  (refine nK E_ok call_123 Tryz.func123 Tryz.ntmps123 Tryz.results123 ?_)
  (repeat' (first | refine eK E_ok ?_ | refine EC.use (ec_ref05_Loaded _ _ _) ?_ | refine zL ?_ | apply Lt.t2 | apply Lt.t3 | apply Lt.t4 | apply Lt.aggE | apply FzA.aggE | (with_reducible intro _) | with_reducible apply And.intro | exact trivial)) <;> (first | exact zA | exact ([] : List Own) | skip)
def opC (op b d : Int) : Int := if op == 3 then IntKind.i64.wrap (b + d) else if op == 4 then IntKind.i64.wrap (b - d) else if op == 5 then IntKind.i64.wrap (b * d) else if op == 6 then (if decide (b < d) then 1 else 0) else if b == d then 1 else 0
def threeC (c : GCPU) (x : GInstr) : GCPU × GAction :=
  if regB x.A && regB x.B && regB x.C then (storedC (c.put x.A.toNat (opC x.Op (c.at x.B.toNat) (c.at x.C.toNat))), default) else (c, actF)
theorem ec_ref05_three (c : GCPU) (x : GInstr) : EC Tryz.prog 135 [.agg c.c, .agg x.c] [] fun r N => N = [] ∧ r = r2a (threeC c x) := by
  refine EC.finK ?_
  (refine nK E_ok call_135 Tryz.func135 Tryz.ntmps135 Tryz.results135 ?_)
  intro fr
  (refine EC.use (ec_ref05_register _) ?_; refine eK E_ok ?_)
  have hb : ∀ b : Bool, (if b = true then (1 : Int) else 0) = if b then 1 else 0 := fun _ => rfl
  (repeat' (first | refine eK E_ok ?_ | refine EC.use (ec_ref05_register _) ?_ | refine EC.use (ec_ref05_fault _) ?_ | refine zL ?_ | apply Lt.t2 | apply Lt.t3 | apply Lt.t4 | apply Lt.aggE | apply FzA.aggE | (with_reducible intro _) | with_reducible apply And.intro | exact trivial)) <;> (first | exact zA | exact ([] : List Own) | (simp [threeC, *]; done) | (simp_all [threeC]; done) | skip)
  rename_i h1 h2 h3
  have hA : 0 ≤ x.A ∧ x.A < 8 := by simpa [regB] using h1
  have hB : 0 ≤ x.B ∧ x.B < 8 := by simp [h1, regB] at h2; exact h2.2
  have hC : 0 ≤ x.C ∧ x.C < 8 := by simp only [h2, Bool.false_or] at h3; simp [regB] at h3; exact h3
  have hr : threeC c x = (storedC (c.put x.A.toNat (opC x.Op (c.at x.B.toNat) (c.at x.C.toNat))), default) := by simp [threeC, regB, hA, hB, hC]
  rw [hr]
  (refine dD E_ok [] [false, false, false, false] [0, 1, 2, 3, 4, 5, 6, 7, 8, 9, 10, 11] fol fun R hR => ?_)
  refine ⟨hB, by omega, hC, by omega, hR _ _ ?_⟩
  simp only [GCPU.ga c _ (show x.B.toNat < 8 by omega), GCPU.ga c _ (show x.C.toNat < 8 by omega), GCPU.pa c _ (show x.A.toNat < 8 by omega), push_cast, simprocAttr]
  (repeat' (first | (refine EOK_run (m := 0) E_ok ?_; simp only [GCPU.pa c _ (show x.A.toNat < 8 by omega), push_cast, simprocAttr]) | refine EC.use (ec_ref05_truth _) ?_ | refine EC.use (ec_ref05_Stored _) ?_ | refine zL ?_ | apply Lt.t2 | apply Lt.t3 | apply Lt.t4 | apply Lt.aggE | apply FzA.aggE | (with_reducible intro _) | with_reducible apply And.intro | exact trivial)) <;> (first | exact zA | exact ([] : List Own) | (simp [opC, *]; done) | (simp_all [opC]; done) | skip)
def nextX (c : GCPU) (x : GInstr) : GCPU × GAction :=
  if x.Op == 0 then (storedC c, default)
  else if x.Op == 1 then (if !regB x.A then (c, actF) else (loadedC c x.A x.B, default))
  else if x.Op == 2 then (if !regB x.A || !regB x.B then (c, actF) else (loadedC c x.A (c.at x.B.toNat), default))
  else if x.Op == 3 || x.Op == 4 || x.Op == 5 || x.Op == 6 || x.Op == 7 then threeC c x
  else if x.Op == 8 then ({ c with PC := x.A }, default)
  else if x.Op == 9 then (if !regB x.A then (c, actF) else if c.at x.A.toNat == 0 then (storedC c, default) else ({ c with PC := x.B }, default))
  else if x.Op == 10 then (if !regB x.A || !regB x.B then (c, actF) else (c, { (default : GAction) with Kind := 1, Address := IntKind.i64.wrap (c.at x.B.toNat + x.C), Reg := x.A }))
  else if x.Op == 11 then (if !regB x.A || !regB x.B then (c, actF) else (c, { (default : GAction) with Kind := 2, Address := IntKind.i64.wrap (c.at x.B.toNat + x.C), Value := c.at x.A.toNat }))
  else if x.Op == 12 then (c, { (default : GAction) with Kind := 3, Number := x.A, Args := ⟨c.Regs.x1, c.Regs.x2, c.Regs.x3⟩ })
  else (c, actF)
def nextC (c : GCPU) (p : GProgram) : GCPU × GAction :=
  if decide (c.PC < 0) || decide ((p.Code.length : Int) ≤ c.PC) then (c, actF) else nextX c (p.Code.getD c.PC.toNat default)
theorem nx0 {c : GCPU} {x : GInstr} (h : x.Op = 0) : nextX c x = (storedC c, default) := by simp [nextX, h]
theorem nx1 {c : GCPU} {x : GInstr} (h : x.Op = 1) : nextX c x = if !regB x.A then (c, actF) else (loadedC c x.A x.B, default) := by simp [nextX, h]
theorem nx2 {c : GCPU} {x : GInstr} (h : x.Op = 2) : nextX c x = if !regB x.A || !regB x.B then (c, actF) else (loadedC c x.A (c.at x.B.toNat), default) := by simp [nextX, h]
theorem nx3 {c : GCPU} {x : GInstr} (h : (x.Op == 3 || x.Op == 4 || x.Op == 5 || x.Op == 6 || x.Op == 7) = true) : nextX c x = threeC c x := by
  have : x.Op = 3 ∨ x.Op = 4 ∨ x.Op = 5 ∨ x.Op = 6 ∨ x.Op = 7 := by simpa [or_assoc] using h
  rcases this with h | h | h | h | h <;> simp [nextX, h]
theorem nx8 {c : GCPU} {x : GInstr} (h : x.Op = 8) : nextX c x = ({ c with PC := x.A }, default) := by simp [nextX, h]
theorem nx9 {c : GCPU} {x : GInstr} (h : x.Op = 9) : nextX c x = if !regB x.A then (c, actF) else if c.at x.A.toNat == 0 then (storedC c, default) else ({ c with PC := x.B }, default) := by simp [nextX, h]
theorem nx10 {c : GCPU} {x : GInstr} (h : x.Op = 10) : nextX c x = if !regB x.A || !regB x.B then (c, actF) else (c, { (default : GAction) with Kind := 1, Address := IntKind.i64.wrap (c.at x.B.toNat + x.C), Reg := x.A }) := by simp [nextX, h]
theorem nx11 {c : GCPU} {x : GInstr} (h : x.Op = 11) : nextX c x = if !regB x.A || !regB x.B then (c, actF) else (c, { (default : GAction) with Kind := 2, Address := IntKind.i64.wrap (c.at x.B.toNat + x.C), Value := c.at x.A.toNat }) := by simp [nextX, h]
theorem nx12 {c : GCPU} {x : GInstr} (h : x.Op = 12) : nextX c x = (c, { (default : GAction) with Kind := 3, Number := x.A, Args := ⟨c.Regs.x1, c.Regs.x2, c.Regs.x3⟩ }) := by simp [nextX, h]
theorem nxd {c : GCPU} {x : GInstr} (h : (x.Op == 0 || x.Op == 1 || x.Op == 2 || x.Op == 3 || x.Op == 4 || x.Op == 5 || x.Op == 6 || x.Op == 7 || x.Op == 8 || x.Op == 9 || x.Op == 10 || x.Op == 11 || x.Op == 12) = false) : nextX c x = (c, actF) := by
  simp only [Bool.or_eq_false_iff] at h
  simp [nextX, h]
theorem ec_ref05_Next (c : GCPU) (p : GProgram) : EC Tryz.prog 118 [.agg c.c, .agg p.c] [] fun r N => N = [] ∧ r = r2a (nextC c p) := by
  refine EC.finK ?_
  (refine nK E_ok call_118 Tryz.func118 Tryz.ntmps118 Tryz.results118 ?_)
  intro fr
  refine ⟨fun h => ?_, fun h => ?_⟩
  · (repeat' (first | refine eK E_ok ?_ | refine EC.use (ec_ref05_fault _) ?_ | refine zL ?_ | apply Lt.t2 | apply Lt.t3 | apply Lt.t4 | apply Lt.aggE | apply FzA.aggE | (with_reducible intro _) | with_reducible apply And.intro | exact trivial)) <;> (first | exact zA | exact ([] : List Own) | (simp [nextC, *]; done) | (simp_all [nextC]; done) | skip)
  have hp : 0 ≤ c.PC ∧ c.PC < p.Code.length := by simp at h; omega
  have hr : nextC c p = nextX c (p.Code.getD c.PC.toNat default) := by simp only [nextC]; rw [if_neg]; simp; omega
  rw [hr]
  (repeat refine sd ?_)
  generalize p.Code.getD c.PC.toNat default = x
  intro fr1
  repeat' (first | with_reducible apply And.intro | with_reducible intro _)
  all_goals try (first | exact absurd (‹(x.Op == 3) = true›.symm.trans ‹(x.Op == 3) = false›) (by decide) | exact absurd (‹(x.Op == 4) = true›.symm.trans ‹(x.Op == 4) = false›) (by decide) | exact absurd (‹(x.Op == 5) = true›.symm.trans ‹(x.Op == 5) = false›) (by decide) | exact absurd (‹(x.Op == 6) = true›.symm.trans ‹(x.Op == 6) = false›) (by decide) | exact absurd (‹(x.Op == 7) = true›.symm.trans ‹(x.Op == 7) = false›) (by decide))
  · exact hp.1
  · exact hp.2
  · rw [nx0 (eq_of_beq ‹(x.Op == 0) = true›)]
    (repeat' (first | refine eK E_ok ?_ | refine EC.use (ec_ref05_Stored _) ?_ | refine zL ?_ | apply Lt.t2 | apply Lt.t3 | apply Lt.t4 | apply Lt.aggE | apply FzA.aggE | (with_reducible intro _) | with_reducible apply And.intro | exact trivial)) <;> (first | exact zA | exact ([] : List Own) | skip)
  · rw [nx1 (eq_of_beq ‹(x.Op == 1) = true›)]
    (repeat' (first | refine eK E_ok ?_ | refine EC.use (ec_ref05_register _) ?_ | refine EC.use (ec_ref05_Loaded _ _ _) ?_ | refine EC.use (ec_ref05_fault _) ?_ | refine zL ?_ | apply Lt.t2 | apply Lt.t3 | apply Lt.t4 | apply Lt.aggE | apply FzA.aggE | (with_reducible intro _) | with_reducible apply And.intro | exact trivial)) <;> (first | exact zA | exact ([] : List Own) | skip)
  · rw [nx2 (eq_of_beq ‹(x.Op == 2) = true›)]
    (repeat' (first | refine eK E_ok ?_ | refine EC.use (ec_ref05_register _) ?_ | refine EC.use (ec_ref05_fault _) ?_ | refine zL ?_ | apply Lt.t2 | apply Lt.t3 | apply Lt.t4 | apply Lt.aggE | apply FzA.aggE | (with_reducible intro _) | with_reducible apply And.intro | exact trivial)) <;> (first | exact zA | exact ([] : List Own) | skip)
    have hB : 0 ≤ x.B ∧ x.B < 8 := by have h2 := ‹(!regB x.A || !regB x.B) = false›; simp [regB] at h2; exact h2.2
    have hA := ‹regB x.A = true›
    rw [if_neg (by have h2 := ‹(!regB x.A || !regB x.B) = false›; rw [h2]; simp)]
    (refine dD E_ok [] [false, false, true, true, false] [0, 1, 2, 3, 4, 5, 6, 7, 9, 8, 10, 11] fol fun R hR => ?_)
    refine ⟨hB, by omega, ?_⟩
    simp only [GCPU.ga c _ (show x.B.toNat < 8 by omega)]
    (refine EC.use (ec_ref05_Loaded _ _ _) ?_; (try simp only [hg]); refine dR E_ok [10, 11] ?_; (repeat intro rh); (try refine sB ⟨?_⟩); (repeat ((with_reducible apply And.intro); exact sdB)); (first | apply_assumption -exfalso | (try simp only [thenP])))
    simp only [push_cast, simprocAttr]
    (repeat' (first | refine eK E_ok ?_ | refine zL ?_ | apply Lt.t2 | apply Lt.t3 | apply Lt.t4 | apply Lt.aggE | apply FzA.aggE | (with_reducible intro _) | with_reducible apply And.intro | exact trivial)) <;> (first | exact zA | exact ([] : List Own) | skip)
  · (repeat' (first | refine eK E_ok ?_ | refine EC.use (ec_ref05_three _ _) ?_ | refine zL ?_ | apply Lt.t2 | apply Lt.t3 | apply Lt.t4 | apply Lt.aggE | apply FzA.aggE | (with_reducible intro _) | with_reducible apply And.intro | exact trivial)) <;> (first | exact zA | exact ([] : List Own) | (simp [nx3, *]; done) | (simp_all [nx3]; done) | skip)
  · (repeat' (first | refine eK E_ok ?_ | refine EC.use (ec_ref05_three _ _) ?_ | refine zL ?_ | apply Lt.t2 | apply Lt.t3 | apply Lt.t4 | apply Lt.aggE | apply FzA.aggE | (with_reducible intro _) | with_reducible apply And.intro | exact trivial)) <;> (first | exact zA | exact ([] : List Own) | (simp [nx3, *]; done) | (simp_all [nx3]; done) | skip)
  · (repeat' (first | refine eK E_ok ?_ | refine EC.use (ec_ref05_three _ _) ?_ | refine zL ?_ | apply Lt.t2 | apply Lt.t3 | apply Lt.t4 | apply Lt.aggE | apply FzA.aggE | (with_reducible intro _) | with_reducible apply And.intro | exact trivial)) <;> (first | exact zA | exact ([] : List Own) | (simp [nx3, *]; done) | (simp_all [nx3]; done) | skip)
  · (repeat' (first | refine eK E_ok ?_ | refine EC.use (ec_ref05_three _ _) ?_ | refine zL ?_ | apply Lt.t2 | apply Lt.t3 | apply Lt.t4 | apply Lt.aggE | apply FzA.aggE | (with_reducible intro _) | with_reducible apply And.intro | exact trivial)) <;> (first | exact zA | exact ([] : List Own) | (simp [nx3, *]; done) | (simp_all [nx3]; done) | skip)
  · (repeat' (first | refine eK E_ok ?_ | refine EC.use (ec_ref05_three _ _) ?_ | refine zL ?_ | apply Lt.t2 | apply Lt.t3 | apply Lt.t4 | apply Lt.aggE | apply FzA.aggE | (with_reducible intro _) | with_reducible apply And.intro | exact trivial)) <;> (first | exact zA | exact ([] : List Own) | (simp [nx3, *]; done) | (simp_all [nx3]; done) | skip)
  · rw [nx8 (eq_of_beq ‹(x.Op == 8) = true›)]
    (repeat' (first | refine eK E_ok ?_ | refine zL ?_ | apply Lt.t2 | apply Lt.t3 | apply Lt.t4 | apply Lt.aggE | apply FzA.aggE | (with_reducible intro _) | with_reducible apply And.intro | exact trivial)) <;> (first | exact zA | exact ([] : List Own) | skip)
  · rw [nx9 (eq_of_beq ‹(x.Op == 9) = true›)]
    (refine EC.use (ec_ref05_register _) ?_; refine eK E_ok ?_)
    refine ⟨fun h2 => ?_, fun h2 => ?_⟩
    · have h3 : regB x.A = false := by simpa using h2
      simp only [h3, if_true]
      (repeat' (first | refine eK E_ok ?_ | refine EC.use (ec_ref05_fault _) ?_ | refine zL ?_ | apply Lt.t2 | apply Lt.t3 | apply Lt.t4 | apply Lt.aggE | apply FzA.aggE | (with_reducible intro _) | with_reducible apply And.intro | exact trivial)) <;> (first | exact zA | exact ([] : List Own) | skip)
    · have h3 : regB x.A = true := by simpa using h2
      have hA : 0 ≤ x.A ∧ x.A < 8 := by simpa [regB] using h3
      simp only [h3, Bool.true_eq_false, if_false, GCPU.ga c _ (show x.A.toNat < 8 by omega), push_cast, simprocAttr]
      refine ⟨by omega, by omega, ?_⟩
      (repeat' (first | refine eK E_ok ?_ | refine EC.use (ec_ref05_Stored _) ?_ | refine zL ?_ | apply Lt.t2 | apply Lt.t3 | apply Lt.t4 | apply Lt.aggE | apply FzA.aggE | (with_reducible intro _) | with_reducible apply And.intro | exact trivial)) <;> (first | exact zA | exact ([] : List Own) | skip)
  · rw [nx10 (eq_of_beq ‹(x.Op == 10) = true›)]
    (repeat' (first | refine eK E_ok ?_ | refine EC.use (ec_ref05_register _) ?_ | refine EC.use (ec_ref05_fault _) ?_ | refine zL ?_ | apply Lt.t2 | apply Lt.t3 | apply Lt.t4 | apply Lt.aggE | apply FzA.aggE | (with_reducible intro _) | with_reducible apply And.intro | exact trivial)) <;> (first | exact zA | exact ([] : List Own) | skip)
    have h2 := ‹(!regB x.A || !regB x.B) = false›
    have hA' := ‹regB x.A = true›
    have hA : 0 ≤ x.A ∧ x.A < 8 := by simpa [regB] using hA'
    have hB : 0 ≤ x.B ∧ x.B < 8 := by simp [regB] at h2; exact h2.2
    rw [if_neg (by rw [h2]; simp)]
    (refine dD E_ok [] [false, false, true, true, false] [0, 1, 2, 3, 4, 5, 6, 7, 8, 9, 10, 11, 12, 13] fol fun R hR => ?_)
    refine ⟨hB, by omega, ?_⟩
    simp only [GCPU.ga c _ (show x.B.toNat < 8 by omega), push_cast, simprocAttr]
    refine hR _ _ ?_
    simp only [push_cast, simprocAttr]
    (repeat' (first | refine eK E_ok ?_ | refine zL ?_ | apply Lt.t2 | apply Lt.t3 | apply Lt.t4 | apply Lt.aggE | apply FzA.aggE | (with_reducible intro _) | with_reducible apply And.intro | exact trivial)) <;> (first | exact zA | exact ([] : List Own) | skip)
  · rw [nx11 (eq_of_beq ‹(x.Op == 11) = true›)]
    (repeat' (first | refine eK E_ok ?_ | refine EC.use (ec_ref05_register _) ?_ | refine EC.use (ec_ref05_fault _) ?_ | refine zL ?_ | apply Lt.t2 | apply Lt.t3 | apply Lt.t4 | apply Lt.aggE | apply FzA.aggE | (with_reducible intro _) | with_reducible apply And.intro | exact trivial)) <;> (first | exact zA | exact ([] : List Own) | skip)
    have h2 := ‹(!regB x.A || !regB x.B) = false›
    have hA' := ‹regB x.A = true›
    have hA : 0 ≤ x.A ∧ x.A < 8 := by simpa [regB] using hA'
    have hB : 0 ≤ x.B ∧ x.B < 8 := by simp [regB] at h2; exact h2.2
    rw [if_neg (by rw [h2]; simp)]
    (refine dD E_ok [] [false, false, true, true, false] [0, 1, 2, 3, 4, 5, 6, 7, 8, 9, 10, 11, 12, 13, 14, 15, 16] fol fun R hR => ?_)
    refine ⟨hB, by omega, ?_⟩
    simp only [GCPU.ga c _ (show x.B.toNat < 8 by omega), GCPU.ga c _ (show x.A.toNat < 8 by omega), push_cast, simprocAttr]
    refine ⟨hA, by omega, ?_⟩
    refine hR _ _ ?_
    simp only [push_cast, simprocAttr]
    (repeat' (first | refine eK E_ok ?_ | refine zL ?_ | apply Lt.t2 | apply Lt.t3 | apply Lt.t4 | apply Lt.aggE | apply FzA.aggE | (with_reducible intro _) | with_reducible apply And.intro | exact trivial)) <;> (first | exact zA | exact ([] : List Own) | skip)
  · rw [nx12 (eq_of_beq ‹(x.Op == 12) = true›)]
    (refine dD E_ok [] [false, false, true, true, false] [0, 1, 2, 3, 4, 5, 6, 7, 8, 9, 10, 11, 12, 13, 14, 15] fol fun R hR => ?_)
    refine hR _ _ ?_
    simp only [push_cast, simprocAttr]
    (repeat' (first | refine eK E_ok ?_ | refine zL ?_ | apply Lt.t2 | apply Lt.t3 | apply Lt.t4 | apply Lt.aggE | apply FzA.aggE | (with_reducible intro _) | with_reducible apply And.intro | exact trivial)) <;> (first | exact zA | exact ([] : List Own) | skip)
  · rw [nxd]
    · (repeat' (first | refine eK E_ok ?_ | refine EC.use (ec_ref05_fault _) ?_ | refine zL ?_ | apply Lt.t2 | apply Lt.t3 | apply Lt.t4 | apply Lt.aggE | apply FzA.aggE | (with_reducible intro _) | with_reducible apply And.intro | exact trivial)) <;> (first | exact zA | exact ([] : List Own) | skip)
    · simp only [*, Bool.or_self]
end Go.Proofs.YtfmldmafigpblaaGreatDoor
end
section
namespace Go.Proofs.YtfmldmafigpblaaGreatDoor
open Go.Lift
set_option linter.unusedSimpArgs false
set_option linter.unusedVariables false
set_option maxRecDepth 10000
attribute [local irreducible] EC EV
def r2ki (a b : Int) : SV := .tup [.int .u64 a, .int .i64 b]
attribute [push_cast] r2ki
theorem ec_ref03_Make0 (s : Int) (hs : 1 ≤ s ∧ s ≤ 1000000) : EC Tryz.prog 65 [.int .i64 0, .int .i64 0, .int .i64 s] [] fun r N => N = [] ∧ r = r2ki s 0 := by
  refine EC.finK ?_
  (refine nK E_ok call_65 Tryz.func65 Tryz.ntmps65 Tryz.results65 ?_)
  refine ⟨fun h => ?_, fun h => ?_⟩
  · simp at h; omega
  have e : bitI BinOp.or IntKind.u64 (bitI BinOp.or IntKind.u64 (IntKind.u64.wrap (IntKind.u64.wrap 0 * 2 ^ min 56 64)) (IntKind.u64.wrap (IntKind.u64.wrap 0 * 2 ^ min 40 64))) (IntKind.u64.wrap s) = s := by
    have e1 : bitI BinOp.or IntKind.u64 (IntKind.u64.wrap (IntKind.u64.wrap 0 * 2 ^ min 56 64)) (IntKind.u64.wrap (IntKind.u64.wrap 0 * 2 ^ min 40 64)) = 0 := by decide
    rw [e1, IntWalk.u64_in s (by omega)]
    obtain ⟨n, rfl⟩ := Int.eq_ofNat_of_zero_le (show 0 ≤ s by omega)
    have e2 : (BitVec.ofInt 64 0 ||| BitVec.ofInt 64 (n : Int)) = BitVec.ofNat 64 n := by
      rw [show BitVec.ofInt 64 0 = 0#64 from rfl, BitVec.zero_or]; exact BitVec.ofInt_natCast ..
    show IntKind.u64.wrap (((BitVec.ofInt 64 0 ||| BitVec.ofInt 64 (n : Int)).toNat : Nat) : Int) = _
    rw [e2, BitVec.toNat_ofNat, Nat.mod_eq_of_lt (by omega), IntWalk.u64_in _ (by omega)]
  rw [e]
  (repeat' (first | refine eK E_ok ?_ | refine zL ?_ | apply Lt.t2 | apply Lt.t3 | apply Lt.t4 | apply Lt.aggE | apply FzA.aggE | (with_reducible intro _) | with_reducible apply And.intro | exact trivial)) <;> (first | exact zA | exact ([] : List Own) | skip)
theorem ec_ref03_New0 : EC Tryz.prog 64 [.int .i64 0, .int .i64 0] [] fun r N => N = [] ∧ r = .tup [.agg (default : GAllocator).c, .int .i64 0] := by
  refine EC.finK ?_
  (refine nK E_ok call_64 Tryz.func64 Tryz.ntmps64 Tryz.results64 ?_)
  (repeat' (first | refine eK E_ok ?_ | refine zL ?_ | apply Lt.t2 | apply Lt.t3 | apply Lt.t4 | apply Lt.aggE | apply FzA.aggE | (with_reducible intro _) | with_reducible apply And.intro | exact trivial)) <;> (first | exact zA | exact ([] : List Own) | skip)
def numB (op n : Int) : Bool := if op == 1 then decide (-9007199254740992 ≤ n) && decide (n ≤ 9007199254740992) else if op == 12 then decide (1 ≤ n) && decide (n ≤ 24) else decide (0 ≤ n) && decide (n ≤ 256)
theorem ec_ref04_number (op n : Int) : EC Tryz.prog 91 [.int .i64 op, .int .i64 n] [] fun r N => N = [] ∧ r = .bool (numB op n) := by
  refine EC.finK ?_
  (refine nK E_ok call_91 Tryz.func91 Tryz.ntmps91 Tryz.results91 ?_)
  (repeat' (first | refine eK E_ok ?_ | refine zL ?_ | apply Lt.t2 | apply Lt.t3 | apply Lt.t4 | apply Lt.aggE | apply FzA.aggE | (with_reducible intro _) | with_reducible apply And.intro | exact trivial)) <;> (first | exact zA | exact ([] : List Own) | (simp [numB, *]; done) | (simp_all [numB]; done) | skip)
def rfForm (op : Int) : List UInt8 := match op.toNat with | 1 => [114, 110] | 2 => [114, 114] | 3 => [114, 114, 114] | 4 => [114, 114, 114] | 5 => [114, 114, 114] | 6 => [114, 114, 114] | 7 => [114, 114, 114] | 8 => [116] | 9 => [114, 116] | 10 => [114, 114, 110] | 11 => [114, 114, 110] | 12 => [110] | _ => []
def opB (op : Int) : Bool := decide (0 ≤ op) && decide (op < 13)
theorem names_at {op : Int} (h : 0 ≤ op ∧ op < 13) : List.getD [[SV.str [110, 111, 112]], [SV.str [115, 101, 116]], [SV.str [109, 111, 118, 101]], [SV.str [97, 100, 100]], [SV.str [115, 117, 98]], [SV.str [109, 117, 108]], [SV.str [108, 101, 115, 115]], [SV.str [101, 113, 117, 97, 108]], [SV.str [106, 117, 109, 112]], [SV.str [105, 102]], [SV.str [108, 111, 97, 100]], [SV.str [115, 116, 111, 114, 101]], [SV.str [99, 97, 108, 108]]] op.toNat [] = [.str (nmOf op)] := by
  obtain ⟨n, rfl⟩ := Int.eq_ofNat_of_zero_le h.1
  have hn : n < 13 := by omega
  match n, hn with
  | 0, _ | 1, _ | 2, _ | 3, _ | 4, _ | 5, _ | 6, _ | 7, _ | 8, _ | 9, _ | 10, _ | 11, _ | 12, _ => rfl
theorem rforms_at {op : Int} (h : 0 ≤ op ∧ op < 13) : List.getD [[SV.str []], [SV.str [114, 110]], [SV.str [114, 114]], [SV.str [114, 114, 114]], [SV.str [114, 114, 114]], [SV.str [114, 114, 114]], [SV.str [114, 114, 114]], [SV.str [114, 114, 114]], [SV.str [116]], [SV.str [114, 116]], [SV.str [114, 114, 110]], [SV.str [114, 114, 110]], [SV.str [110]]] op.toNat [] = [.str (rfForm op)] := by
  obtain ⟨n, rfl⟩ := Int.eq_ofNat_of_zero_le h.1
  have hn : n < 13 := by omega
  match n, hn with
  | 0, _ | 1, _ | 2, _ | 3, _ | 4, _ | 5, _ | 6, _ | 7, _ | 8, _ | 9, _ | 10, _ | 11, _ | 12, _ => rfl
theorem ec_ref04_form (op : Int) : EC Tryz.prog 90 [.int .i64 op] [] fun r N => N = [] ∧ r = .tup [.str (if opB op then nmOf op else []), .str (if opB op then rfForm op else [])] := by
  refine EC.finK ?_
  (refine nK E_ok call_90 Tryz.func90 Tryz.ntmps90 Tryz.results90 ?_)
  intro fr fr1
  refine ⟨fun h => ?_, fun h => ?_⟩
  · have h2 : opB op = false := by simp [opB] at h ⊢; omega
    rw [h2]
    (repeat' (first | refine eK E_ok ?_ | refine zL ?_ | apply Lt.t2 | apply Lt.t3 | apply Lt.t4 | apply Lt.aggE | apply FzA.aggE | (with_reducible intro _) | with_reducible apply And.intro | exact trivial)) <;> (first | exact zA | exact ([] : List Own) | skip)
  have h2 : 0 ≤ op ∧ op < 13 := by simp at h; omega
  have h3 : opB op = true := by simp [opB]; omega
  rw [h3]
  (refine dD E_ok [] [false, false] [0, 1, 2, 3, 4, 5, 6, 7, 8, 9] fol fun R hR => ?_)
  refine ⟨h2, by omega, h2, by omega, hR _ _ ?_⟩
  simp only [names_at h2, rforms_at h2, push_cast, simprocAttr]
  (repeat' (first | refine eK E_ok ?_ | refine zL ?_ | apply Lt.t2 | apply Lt.t3 | apply Lt.t4 | apply Lt.aggE | apply FzA.aggE | (with_reducible intro _) | with_reducible apply And.intro | exact trivial)) <;> (first | exact zA | exact ([] : List Own) | skip)
theorem nm_ne {op : Int} (h : 0 ≤ op ∧ op < 13) : (nmOf op == []) = false := by
  obtain ⟨n, rfl⟩ := Int.eq_ofNat_of_zero_le h.1
  have hn : n < 13 := by omega
  match n, hn with
  | 0, _ | 1, _ | 2, _ | 3, _ | 4, _ | 5, _ | 6, _ | 7, _ | 8, _ | 9, _ | 10, _ | 11, _ | 12, _ => rfl
def rfAt (x : GInstr) (len : Int) (i : Nat) : Bool :=
  if decide (((rfForm x.Op).length : Int) ≤ i) then argAt x i == 0
  else !((((rfForm x.Op).getD i 0).toNat : Int) == 114 && (decide (argAt x i < 0) || decide (8 ≤ argAt x i))) && !((((rfForm x.Op).getD i 0).toNat : Int) == 116 && (decide (argAt x i < 0) || decide (len < argAt x i))) && !((((rfForm x.Op).getD i 0).toNat : Int) == 110 && !numB x.Op (argAt x i))
theorem abc_at {x : GInstr} {i : Nat} (h : i < 3) : List.getD [[SV.int .i64 x.A], [SV.int .i64 x.B], [SV.int .i64 x.C]] i [] = [.int .i64 (argAt x i)] := by
  match i, h with
  | 0, _ | 1, _ | 2, _ => rfl
theorem ec_ref04_right0 (x : GInstr) (len : Int) : EC Tryz.prog 63 [.agg x.c, .int .i64 len] [] fun r N => N = [] ∧ r = .bool (opB x.Op && (rfAt x len 0 && rfAt x len 1 && rfAt x len 2)) := by
  refine EC.finK ?_
  (refine nK E_ok call_63 Tryz.func63 Tryz.ntmps63 Tryz.results63 ?_)
  intro fr
  cases ho : opB x.Op with
  | false =>
    have hF := ec_ref04_form x.Op
    rw [ho] at hF
    (refine EC.use (hF) ?_; refine eK E_ok ?_)
    (repeat' (first | refine eK E_ok ?_ | refine zL ?_ | apply Lt.t2 | apply Lt.t3 | apply Lt.t4 | apply Lt.aggE | apply FzA.aggE | (with_reducible intro _) | with_reducible apply And.intro | exact trivial)) <;> (first | exact zA | exact ([] : List Own) | skip)
  | true =>
    have h2 : 0 ≤ x.Op ∧ x.Op < 13 := by simpa [opB] using ho
    have hF := ec_ref04_form x.Op
    rw [ho] at hF
    (refine EC.use (hF) ?_; refine eK E_ok ?_)
    simp only [nm_ne h2, push_cast, simprocAttr]
    intro fr1
    refine EV_loopK E_ok [1, 2, 6, 23, 24] (fun i : Nat => [(25, .int .i64 i)]) (fun B _ => B) (fun i => i ≤ 3 ∧ (List.range i).all (rfAt x len) = true) (fun i => 3 - i) 0 ⟨by omega, rfl⟩ ?_
    rintro i ⟨hi, hx⟩
    simp only [push_cast, simprocAttr]
    refine ⟨fun hc => ?_, fun hc => ?_⟩
    · have hi3 : i < 3 := by omega
      have hw : IntKind.i64.wrap ((i : Int) + 1) = ((i + 1 : Nat) : Int) := i64_in' (by omega)
      simp only [abc_at hi3, hw, push_cast, simprocAttr]
      have hN : rfAt x len i = false → false = (rfAt x len 0 && rfAt x len 1 && rfAt x len 2) := fun h => by
        match i, hi3, h with
        | 0, _, h | 1, _, h | 2, _, h => simp [h]
      obtain ⟨r0, hr0⟩ : ∃ r0, rfAt x len i = r0 := ⟨_, rfl⟩
      have hr := hr0
      rw [hr0] at hN
      unfold rfAt at hr
      have hT : r0 = true → (List.range (i + 1)).all (rfAt x len) = true := fun h => rangeAll_step hx (hr0.trans h)
      clear hr0 hx
      generalize (((rfForm x.Op).getD i 0).toNat : Int) = c at hr ⊢
      generalize argAt x i = v at hr ⊢
      generalize ((rfForm x.Op).length : Int) = k at hr ⊢
      (repeat' (first | (refine EOK_run (m := 0) E_ok ?_; simp only [hw, push_cast, simprocAttr]) | refine EC.use (ec_ref04_number _ _) ?_ | refine zL ?_ | apply Lt.t2 | apply Lt.t3 | apply Lt.t4 | apply Lt.aggE | apply FzA.aggE | (with_reducible intro _) | with_reducible apply And.intro | exact trivial)) <;> (first | exact zA | exact ([] : List Own) | skip)
      all_goals first
        | exact hN (by rw [← hr]; clear hr hT; simp_all)
        | exact NX_mk (i + 1) ⟨by omega, hT (by rw [← hr]; clear hr hN; first | (simp_all; done) | (simp_all; split <;> omega))⟩
    · have : i = 3 := by simp at hc; omega
      subst this
      have : (rfAt x len 0 && rfAt x len 1 && rfAt x len 2) = true := by simpa [List.range_succ, Bool.and_assoc] using hx
      rw [this]
      (repeat' (first | refine eK E_ok ?_ | refine zL ?_ | apply Lt.t2 | apply Lt.t3 | apply Lt.t4 | apply Lt.aggE | apply FzA.aggE | (with_reducible intro _) | with_reducible apply And.intro | exact trivial)) <;> (first | exact zA | exact ([] : List Own) | skip)
theorem rf_eq (x : GInstr) (len : Int) (h : 0 ≤ x.Op ∧ x.Op < 13) {i : Nat} (hi : i < 3) : rfAt x len i = okAt x len i := by
  obtain ⟨op, A, B, C⟩ := x
  obtain ⟨n, rfl⟩ := Int.eq_ofNat_of_zero_le h.1
  have hn : n < 13 := by simp at h; omega
  match n, hn with
  | 0, _ | 1, _ | 2, _ | 3, _ | 4, _ | 5, _ | 6, _ | 7, _ | 8, _ | 9, _ | 10, _ | 11, _ | 12, _ =>
    match i, hi with
    | 0, _ | 1, _ | 2, _ =>
      first
      | rfl
      | (simp [rfAt, okAt, rfForm, opnd, ftB, numB, argAt, Bool.and_comm]; done)
      | (simp [rfAt, okAt, rfForm, opnd, ftB, numB, argAt]; done)
      | (simp [rfAt, okAt, rfForm, opnd, ftB, numB, argAt]; rw [Bool.eq_iff_iff]; first | done | (simp; done) | (simp; omega))
theorem right_eq (x : GInstr) (len : Int) : (opB x.Op && (rfAt x len 0 && rfAt x len 1 && rfAt x len 2)) = rightB x len := by
  unfold rightB
  cases ho : opB x.Op with
  | false =>
    have : (decide (0 ≤ x.Op) && decide (x.Op < 13)) = false := ho
    rw [this]; rfl
  | true =>
    have h : (decide (0 ≤ x.Op) && decide (x.Op < 13)) = true := ho
    have h2 : 0 ≤ x.Op ∧ x.Op < 13 := by simpa using h
    rw [h, rf_eq x len h2 (by decide), rf_eq x len h2 (by decide), rf_eq x len h2 (by decide)]
theorem ec_ref04_right (x : GInstr) (len : Int) : EC Tryz.prog 63 [.agg x.c, .int .i64 len] [] fun r N => N = [] ∧ r = .bool (rightB x len) := by
  have := ec_ref04_right0 x len
  rwa [right_eq] at this
theorem ec_ref04_Check (p : GProgram) (h1 : p.Code.length ≤ 1000000) (h2 : p.Strings.length ≤ 1000000) : EC Tryz.prog 35 [.agg p.c] [] fun r N => N = [] ∧ ∃ x : Int, True ∧ r = .tup [.int .i64 x, .int .i64 (chkE p)] := by
  refine EC.finKP ?_
  (refine nK E_ok call_35 Tryz.func35 Tryz.ntmps35 Tryz.results35 ?_)
  intro fr
  cases h : (decide (256 < (p.Code.length : Int)) || decide (32 < (p.Strings.length : Int))) with
  | true => exact ⟨fun _ => ⟨0, Lt.t2 FzA.int (FzA.intE (by simp only [chkE, h, Bool.true_or, if_true]))⟩, fun h => (nomatch h)⟩
  | false =>
    refine ⟨fun h => (nomatch h), fun _ => ?_⟩
    refine EV_loopK E_ok [1, 19, 20] (fun i : Nat => [(21, .int .i64 i)]) (fun B _ => B) (fun i => i ≤ p.Strings.length ∧ (p.Strings.take i).all (fun s => !decide (128 < (s.length : Int))) = true) (fun i => p.Strings.length - i) 0 ⟨Nat.zero_le _, rfl⟩ ?_
    rintro i ⟨hi, hx⟩
    have hw : IntKind.i64.wrap ((i : Int) + 1) = ((i + 1 : Nat) : Int) := by rw [i64_in' (by omega)]; omega
    simp only [hw, push_cast, simprocAttr]
    refine ⟨fun hc => ⟨⟨by omega, hc⟩, ?_⟩, fun hc => ?_⟩
    · have hlt : i < p.Strings.length := by omega
      refine ⟨fun e => ⟨0, Lt.t2 FzA.int (FzA.intE ?_)⟩, fun e => NX_mk (i + 1) ⟨by omega, all_succ hlt hx (by simpa using e)⟩⟩
      have h5 : p.Strings.any (fun s => decide (128 < (s.length : Int))) = true := by
        rw [List.any_eq_true]
        refine ⟨p.Strings.getD i default, ?_, by simpa using e⟩
        have : p.Strings.getD i default = p.Strings[i] := by simp [List.getD, hlt]
        rw [this]; exact List.getElem_mem hlt
      simp only [chkE, h, h5, Bool.or_true, if_true]
    · have e : i = p.Strings.length := by simp at hc; omega
      rw [e, List.take_length] at hx
      have h5 : p.Strings.any (fun s => decide (128 < (s.length : Int))) = false := by
        rw [← Bool.not_eq_true, List.any_eq_true]
        rintro ⟨s, hs, h6⟩
        have := List.all_eq_true.1 hx s hs
        simp at this h6; omega
      refine ⟨fun h3 => ⟨0, Lt.t2 FzA.int (FzA.intE (by simp [chkE, h, h5, h3]))⟩, fun h3 => ?_⟩
      have hc : chkE p = if p.Code.all (fun x => rightB x p.Code.length) then 0 else 1 := by simp only [chkE, h, h5, h3, Bool.false_or, if_false, Bool.false_eq_true]
      refine EV_loopK E_ok [38, 39, 1] (fun i : Nat => [(40, .int .i64 i)]) (fun B _ => B) (fun i => i ≤ p.Code.length ∧ (p.Code.take i).all (fun x => rightB x p.Code.length) = true) (fun i => p.Code.length - i) 0 ⟨Nat.zero_le _, rfl⟩ ?_
      rintro i ⟨hi, hx⟩
      have hw : IntKind.i64.wrap ((i : Int) + 1) = ((i + 1 : Nat) : Int) := by rw [i64_in' (by omega)]; omega
      simp only [hw, push_cast, simprocAttr]
      refine ⟨fun e fr1 => ⟨⟨by omega, e⟩, ?_⟩, fun e => ⟨0, Lt.t2 FzA.int (FzA.intE ?_)⟩⟩
      · have hlt : i < p.Code.length := by omega
        (refine EC.use (ec_ref04_right _ _) ?_; refine EOK_run (m := 0) E_ok ?_; simp only [hw, push_cast, simprocAttr])
        refine ⟨fun e => ⟨i, Lt.t2 FzA.int (FzA.intE ?_)⟩, fun e => NX_mk (i + 1) ⟨by omega, ?_⟩⟩
        · rw [hc, all_fail hlt e, if_neg (by simp)]
        · exact all_succ hlt hx (by simpa using e)
      · have e : i = p.Code.length := by simp at e; omega
        rw [e, List.take_length] at hx
        rw [hc, hx, if_pos rfl]
def idsF (s : Int) (n : Nat) : List Int := (List.range n).map fun i : Nat => s + 1 + (i : Int)
theorem idsF_succ (s : Int) (n : Nat) : idsF s (n + 1) = idsF s n ++ [s + 1 + (n : Int)] := by simp [idsF, List.range_succ]
theorem idsF_len (s : Int) (n : Nat) : (idsF s n).length = n := by simp [idsF]
def r3al (l : List Int) (a : GAllocator) : SV := .tup [slL 1 (intC .u64) default l, .agg a.c, .int .i64 0]
attribute [push_cast] r3al
def alc (s : Int) : GAllocator := { (default : GAllocator) with Serial := s }
theorem ec_ref03_Next0 (s : Int) (n : Nat) (hs : 0 ≤ s ∧ s ≤ 900000) (hn : n ≤ 64) : EC Tryz.prog 36 [.agg (alc s).c, .int .i64 n] [] fun r N => N = [] ∧ r = r3al (idsF s n) (alc (s + n)) := by
  refine EC.finK ?_
  (refine nK E_ok call_36 Tryz.func36 Tryz.ntmps36 Tryz.results36 ?_)
  intro fr
  (refine EC.use (ec_ref03_New0) ?_; refine eK E_ok ?_)
  intro fr1
  have hal : (alc s).Serial = s := rfl
  have hw0 : IntKind.i64.wrap (s + (n : Int)) = s + n := i64_in' (by omega)
  simp only [hal, hw0]
  refine ⟨fun h => by simp at h; omega, fun _ => ⟨fun h => by simp at h; omega, fun _ => ⟨fun h => by omega, fun _ => ?_⟩⟩⟩
  refine EV_matr 9 22 1 rfl ?_
  intro hl
  refine EV_loopK E_ok [1, 2, 5] (fun x : Nat × RowH => [(10, .int .i64 x.1), (9, .row 3 x.2 1 0 x.1)]) (fun B x => updH (updX B 0 [(alc (s + x.1)).c]) 3 x.2 ((idsF s x.1).map (intC .u64))) (fun x => x.1 ≤ n) (fun x => n - x.1) (0, hl) (Nat.zero_le _) ?_ (hb := by simp [updX, updH, setX, idsF])
  rintro ⟨i, hh⟩ hi
  replace hi : i ≤ n := hi
  have hw1 : IntKind.i64.wrap (s + (i : Int) + 1) = s + (i : Int) + 1 := i64_in' (by omega)
  have hw2 : IntKind.i64.wrap ((i : Int) + 1) = ((i + 1 : Nat) : Int) := by rw [i64_in' (by omega)]; omega
  have hi2 : (alc (s + i)).Serial = s + i := rfl
  have hn0 : (alc (s + i)).Node = 0 := rfl
  have hb0 : (alc (s + i)).Boot = 0 := rfl
  have hst : (GAllocator.mk 0 0 (s + (i : Int) + 1)) = alc (s + ((i + 1 : Nat) : Int)) := by
    show GAllocator.mk 0 0 _ = GAllocator.mk 0 0 _
    rw [show s + (i : Int) + 1 = s + ((i + 1 : Nat) : Int) by omega]
  simp only [hi2, hw1, hw2, hn0, hb0, hst, push_cast, simprocAttr]
  have hn1 : (alc (s + ((i : Int) + 1))).Node = 0 := rfl
  have hb1 : (alc (s + ((i : Int) + 1))).Boot = 0 := rfl
  have hi1 : (alc (s + ((i : Int) + 1))).Serial = s + ((i : Int) + 1) := rfl
  simp only [hn1, hb1, hi1]
  refine ⟨fun hc => ?_, fun hc => ?_⟩
  · (refine EC.use (ec_ref03_Make0 (s + ((i : Int) + 1)) (by omega)) ?_; refine EOK_run (m := 0) E_ok ?_; simp only [hw2, push_cast, simprocAttr])
    intro fr2
    refine ⟨⟨by rw [idsF_len]; exact Nat.le_refl _, by omega⟩, ?_⟩
    have e : List.take i (List.map (intC .u64) (idsF s i)) ++ [[SV.int .u64 (s + ((i : Int) + 1))]] = (idsF s (i + 1)).map (intC .u64) := by
      rw [List.take_of_length_le (by simp [idsF_len]), idsF_succ, List.map_append]
      simp [intC]; omega
    rw [e]
    exact NX_mk (i + 1, fr2 3) (by show i + 1 ≤ n; omega)
  · have : i = n := by simp at hc; omega
    subst this
    (refine dD E_ok [] [false, true, false, false] [0, 1, 2, 3, 4] fol fun R hR => ?_; (repeat intro rh); (try refine sB ⟨?_⟩); (repeat ((with_reducible apply And.intro); exact sdB)); (repeat intro rh); (repeat ((with_reducible apply And.intro); exact sdB)); (try apply_assumption -exfalso))
    simp only [push_cast, simprocAttr]
    exact Lt.t3 (FzA.row rfl rfl (idsF_len _ _).symm) (FzA.aggE rfl rfl) FzA.int
theorem ec_made_Fresh (k : GKernel) (n : Nat) (hs : 0 ≤ k.Serial ∧ k.Serial ≤ 900000) (hn : n ≤ 64) : EC Tryz.prog 15 [.agg k.c, .int .i64 n] [] fun r N => N = [] ∧ r = slL 1 (intC .u64) default (idsF k.Serial n) := by
  refine EC.finK ?_
  (refine nK E_ok call_15 Tryz.func15 Tryz.ntmps15 Tryz.results15 ?_)
  intro fr
  (refine EC.use (ec_ref03_Next0 k.Serial n hs hn) ?_; refine eK E_ok ?_)
  exact fun _ => ⟨trivial, SLe.refl _⟩
end Go.Proofs.YtfmldmafigpblaaGreatDoor
end
section
namespace Go.Proofs.YtfmldmafigpblaaGreatDoor
open Go.Lift
set_option linter.unusedSimpArgs false
set_option linter.unusedVariables false
set_option maxRecDepth 10000
attribute [local irreducible] EC EV
def zomB (p : GProcess) : Bool := p.Parent != 0 && restB p
theorem ec_ref16_zombie (p : GProcess) : EC Tryz.prog 52 [.agg p.c] [] fun r N => N = [] ∧ r = .bool (zomB p) := by
  refine EC.finK ?_
  (refine nK E_ok call_52 Tryz.func52 Tryz.ntmps52 Tryz.results52 ?_)
  (repeat' (first | refine eK E_ok ?_ | refine EC.use (ec_ref06_Bare _) ?_ | refine zL ?_ | apply Lt.t2 | apply Lt.t3 | apply Lt.t4 | apply Lt.aggE | apply FzA.aggE | (with_reducible intro _) | with_reducible apply And.intro | exact trivial)) <;> (first | exact zA | exact ([] : List Own) | (simp [zomB, *]; done) | (simp_all [zomB]; done) | skip)
theorem proc_bare (o : GObject) : onlyB o 2 = bareB { o with Process := default } := by
  have h1 : bitI .andNot .i64 1 2 = 1 := by decide
  have h2 : bitI .andNot .i64 2 2 = 0 := by decide
  have h3 : bitI .andNot .i64 4 2 = 4 := by decide
  have h4 : bitI .andNot .i64 8 2 = 8 := by decide
  have h5 : bitI .andNot .i64 16 2 = 16 := by decide
  have h6 : bitI .andNot .i64 32 2 = 32 := by decide
  have h7 : bitI .andNot .i64 64 2 = 64 := by decide
  have h8 : bitI .andNot .i64 128 2 = 128 := by decide
  have h9 : bitI .andNot .i64 256 2 = 256 := by decide
  have h10 : bitI .andNot .i64 512 2 = 512 := by decide
  have h11 : bitI .andNot .i64 1024 2 = 1024 := by decide
  have h12 : bitI .andNot .i64 2048 2 = 2048 := by decide
  have h13 : bitI .andNot .i64 4096 2 = 4096 := by decide
  have hb : blankP default = true := rfl
  apply Bool.eq_iff_iff.2
  simp [onlyB, okB, bareB, h1, h2, h3, h4, h5, h6, h7, h8, h9, h10, h11, h12, h13, hb]
  intros
  simp only [and_assoc]
def rfC (o : GObject) : Bool := o.Kind != 1 || o.ID == 0 || !bareB { o with Process := default } || decide (o.Process.State < 1) || decide (3 < o.Process.State) || o.Process.Parent == o.ID || decide (32 < (o.Process.Children.length : Int))
def rfT (o : GObject) : Bool :=
  if !famL o.ID o.Process.Children then false
  else if chkE o.Process.Program != 0 then false
  else spOk o.Process.Pages && tbOk o.Process.Table && sigOk' o.Process.Pending && decide (0 ≤ o.Process.Alarm) && decide (o.Process.Alarm ≤ 1073741824) && (o.Process.State != 1 || o.Process.Status == 0) && (o.Process.State != 3 || zomB o.Process)
def rfV (o : GObject) : Bool := if rfC o then false else rfT o
theorem sig_00 : sigOk 0 = true := by decide +kernel
theorem chkE_empty {p : GProgram} (h1 : p.Code = []) (h2 : p.Strings = []) (h3 : p.Pages = 0) : chkE p = 0 := by
  obtain ⟨a, b, c⟩ := p
  subst h1 h2 h3
  rfl
theorem rfV_eq (o : GObject) (hp : -9223372036854775808 ≤ o.Process.Pending ∧ o.Process.Pending ≤ 9223372036854775807) : rfV o = prB o := by
  unfold rfV rfC rfT prB
  rw [← proc_bare, ← sigOk_eq _ hp]
  unfold famB
  have hlen : decide (32 < (o.Process.Children.length : Int)) = !decide ((o.Process.Children.length : Int) ≤ 32) := by
    rw [Bool.eq_iff_iff]; simp
  rw [hlen]
  cases h1 : o.Kind != 1
  case true => simp
  cases h2 : o.ID == 0
  case true => simp
  cases h3 : onlyB o 2
  case false => simp
  cases h4 : famL o.ID o.Process.Children
  case false => simp
  cases h5 : decide ((o.Process.Children.length : Int) ≤ 32)
  case false => simp
  cases h6 : o.Process.Parent == o.ID
  case true =>
    have : (o.Process.Parent != o.ID) = false := by simp [bne, h6]
    simp [this]
  have h7 : (o.Process.Parent != o.ID) = true := by simp [bne, h6]
  rw [h7]
  simp only [Bool.not_true, Bool.or_false, Bool.and_true, Bool.false_or, Bool.false_eq_true, if_false, Bool.not_false]
  by_cases s3 : o.Process.State = 3
  · rw [s3]
    cases hz : zomB o.Process with
    | false =>
      have : (o.Process.Parent != 0 && restB o.Process) = false := hz
      simp [this]
    | true =>
      have hz2 : (o.Process.Parent != 0 && restB o.Process) = true := hz
      have hr : restB o.Process = true := by simp at hz2; exact hz2.2
      simp only [restB, Bool.and_eq_true, List.isEmpty_iff, beq_iff_eq] at hr
      obtain ⟨⟨⟨⟨⟨⟨⟨⟨r1, r2⟩, r3⟩, r4⟩, r5⟩, r6⟩, r7⟩, r8⟩, r9⟩ := hr
      rw [chkE_empty r2 r3 r6, r4, r5, r8, r9, sig_00, hz2]
      rfl
  by_cases s1 : o.Process.State = 1
  · rw [s1]
    rw [show (chkE o.Process.Program != 0) = !(chkE o.Process.Program == 0) from rfl]
    generalize (chkE o.Process.Program == 0) = a
    generalize spOk o.Process.Pages = b
    generalize tbOk o.Process.Table = c
    generalize sigOk o.Process.Pending = d
    generalize decide (0 ≤ o.Process.Alarm) = e
    generalize decide (o.Process.Alarm ≤ 1073741824) = f
    generalize (o.Process.Status == 0) = g
    cases a <;> cases b <;> cases c <;> cases d <;> cases e <;> cases f <;> cases g <;> rfl
  by_cases s2 : o.Process.State = 2
  · rw [s2]
    rw [show (chkE o.Process.Program != 0) = !(chkE o.Process.Program == 0) from rfl]
    generalize (chkE o.Process.Program == 0) = a
    generalize spOk o.Process.Pages = b
    generalize tbOk o.Process.Table = c
    generalize sigOk o.Process.Pending = d
    generalize decide (0 ≤ o.Process.Alarm) = e
    generalize decide (o.Process.Alarm ≤ 1073741824) = f
    generalize (o.Process.Status == 0) = g
    cases a <;> cases b <;> cases c <;> cases d <;> cases e <;> cases f <;> cases g <;> rfl
  have e1 : (decide (o.Process.State < 1) || decide (3 < o.Process.State)) = true := by simp; omega
  have e2 : (o.Process.State == 3) = false := by simpa using s3
  have e3 : (o.Process.State == 1 || o.Process.State == 2) = false := by simp [s1, s2]
  rw [e2, e3, e1]
  rfl
theorem ec_ref16_Valid (o : GObject) (ho : smallO o) (hp : -9223372036854775808 ≤ o.Process.Pending ∧ o.Process.Pending ≤ 9223372036854775807) : EC Tryz.prog 24 [.agg o.c] [] fun r N => N = [] ∧ r = .bool (prB o) := by
  refine EC.finK ?_
  (refine nK E_ok call_24 Tryz.func24 Tryz.ntmps24 Tryz.results24 ?_)
  intro fr fr1
  rw [← rfV_eq o hp]
  unfold rfV
  cases hC : rfC o with
  | true =>
    have hR : (o.Kind != 1 || o.ID == 0 || !bareB { o with Process := default } || decide (o.Process.State < 1) || decide (3 < o.Process.State) || o.Process.Parent == o.ID || decide (32 < (o.Process.Children.length : Int))) = true := hC
    simp only [if_true]
    (repeat' (first | refine eK E_ok ?_ | refine EC.use (ec_ref06_Bare _) ?_ | refine zL ?_ | apply Lt.t2 | apply Lt.t3 | apply Lt.t4 | apply Lt.aggE | apply FzA.aggE | (with_reducible intro _) | with_reducible apply And.intro | exact trivial)) <;> (first | exact zA | exact ([] : List Own) | skip)
    all_goals exact absurd (hR.symm.trans ‹_›) (by decide)
  | false =>
    have hR : (o.Kind != 1 || o.ID == 0 || !bareB { o with Process := default } || decide (o.Process.State < 1) || decide (3 < o.Process.State) || o.Process.Parent == o.ID || decide (32 < (o.Process.Children.length : Int))) = false := hC
    simp only [Bool.false_eq_true, if_false]
    have hCs := hR
    simp only [Bool.or_eq_false_iff] at hCs
    obtain ⟨⟨⟨⟨⟨⟨c1, c2⟩, c3⟩, c4⟩, c5⟩, c6⟩, c7⟩ := hCs
    simp only [c1, c2, Bool.or_false, forall_const, Bool.not_false, Bool.true_eq_false, false_imp_iff, and_true, push_cast, simprocAttr]
    (refine EC.use (ec_ref06_Bare _) ?_; refine eK E_ok ?_)
    simp only [c3, c4, c5, c6, c7, Bool.or_self, Bool.false_eq_true, false_imp_iff, true_and, forall_const]
    refine ⟨by simpa using c3, ?_⟩
    refine EV_loopK E_ok [1, 3, 49, 50] (fun i : Nat => [(51, .int .i64 i)]) (fun B _ => B) (fun i => i ≤ o.Process.Children.length ∧ (List.range i).all (famP o.ID o.Process.Children) = true) (fun i => o.Process.Children.length - i) 0 ⟨Nat.zero_le _, rfl⟩ ?_
    rintro i ⟨hi, hx⟩
    have hcl := ho.1.1
    have hsub := sub_elt0 (fl := false) (e := 1) (c := intC .u64) (d := default) hi
    simp only [hsub, push_cast, simprocAttr]
    refine ⟨fun h => ⟨⟨by omega, h⟩, fun g => ⟨g, by omega, hi⟩, fun g => ?_, fun g => ?_⟩, fun h => ?_⟩
    · have hlt : i < o.Process.Children.length := by omega
      have hp := fun e : famP o.ID o.Process.Children i = false => rangeAll_no (p := famP o.ID o.Process.Children) hlt e
      (refine EC.use (ec_ref03_HasS _ _ (by simp; omega)) ?_; refine EOK_run (m := 0) E_ok ?_; simp only [wrap1 hlt hcl, g, push_cast, simprocAttr])
      simp only [Bool.or_eq_false_iff] at g
      refine ⟨fun e => Lt.bool ?_, fun e => NX_mk (i + 1) ⟨by omega, rangeAll_step hx ?_⟩⟩
      · rw [rfT, famL, hp (by rw [famP, g.1, g.2, decide_eq_true e]; rfl)]; rfl
      · rw [famP, g.1, g.2, e]; rfl
    · have hlt : i < o.Process.Children.length := by omega
      have hp := fun e : famP o.ID o.Process.Children i = false => rangeAll_no (p := famP o.ID o.Process.Children) hlt e
      rw [Bool.not_eq_false'] at g
      (repeat (refine EOK_run (m := 0) E_ok ?_; simp only [wrap1 hlt hcl, g, push_cast, simprocAttr]))
      refine Lt.bool ?_
      rw [rfT, famL, hp]; rfl
      rw [famP, ← Bool.not_or, g]; rfl
    · have e : i = o.Process.Children.length := by simp at h; omega
      subst e
      rw [rfT, famL, hx]
      (repeat' (first | refine eK E_ok ?_ | (refine EC.useP (ec_ref04_Check _ ho.1.2.1 ho.1.2.2.1) ?_; intro x hx) | refine EC.use (ec_ref07_Valid _ ho.1.2.2.2.1) ?_ | refine EC.use (ec_ref10_Valid _ ho.1.2.2.2.2) ?_ | refine EC.use (ec_ref14_Valid _) ?_ | refine EC.use (ec_ref16_zombie _) ?_ | refine zL ?_ | apply Lt.t2 | apply Lt.t3 | apply Lt.t4 | apply Lt.aggE | apply FzA.aggE | (with_reducible intro _) | with_reducible apply And.intro | exact trivial)) <;> (first | exact zA | exact ([] : List Own) | skip)
      rename_i k1 k2 k3 k4
      rw [k1, if_neg (by simp)]
      cases hs : o.Process.State != 3
      · rw [hs] at k4
        simp only [Bool.not_false, Bool.and_true] at k4
        simp only [k4, Bool.false_and]
      · simp only [Bool.true_or, Bool.and_true]
end Go.Proofs.YtfmldmafigpblaaGreatDoor
end
section
namespace Go.Proofs.YtfmldmafigpblaaGreatDoor
open Go.Lift
set_option linter.unusedSimpArgs false
set_option linter.unusedVariables false
set_option maxRecDepth 10000
attribute [local irreducible] EC EV
def pendO (o : GObject) : Prop := -9223372036854775808 ≤ o.Process.Pending ∧ o.Process.Pending ≤ 9223372036854775807
theorem ec_ref16_End (o : GObject) (st : Int) (ho : smallO o) (hp : pendO o) : EC Tryz.prog 20 [.agg o.c, .int .i64 st] [] fun r N => N = [] ∧ r = r3e (endO o st) := by
  refine EC.finK ?_
  (refine nK E_ok call_20 Tryz.func20 Tryz.ntmps20 Tryz.results20 ?_)
  (repeat' (first | refine eK E_ok ?_ | refine EC.use (ec_ref16_Valid o ho hp) ?_ | refine zL ?_ | apply Lt.t2 | apply Lt.t3 | apply Lt.t4 | apply Lt.aggE | apply FzA.aggE | (with_reducible intro _) | with_reducible apply And.intro | exact trivial)) <;> (first | exact zA | exact ([] : List Own) | (simp [endO, *]; done) | (simp_all [endO]; done) | skip)
def orphO (o : GObject) : GObject × Bool × Int :=
  if (!prB o) = true then (default, false, 1) else if (o.Process.Parent == 0) = true then (default, false, 8) else if (o.Process.State == 3) = true then (default, true, 0)
  else ({ o with Process := { o.Process with Parent := 0 } }, false, 0)
theorem ec_ref16_Orphan (o : GObject) (ho : smallO o) (hp : pendO o) : EC Tryz.prog 22 [.agg o.c] [] fun r N => N = [] ∧ r = r3e (orphO o) := by
  refine EC.finK ?_
  (refine nK E_ok call_22 Tryz.func22 Tryz.ntmps22 Tryz.results22 ?_)
  (repeat' (first | refine eK E_ok ?_ | refine EC.use (ec_ref16_Valid o ho hp) ?_ | refine zL ?_ | apply Lt.t2 | apply Lt.t3 | apply Lt.t4 | apply Lt.aggE | apply FzA.aggE | (with_reducible intro _) | with_reducible apply And.intro | exact trivial)) <;> (first | exact zA | exact ([] : List Own) | (simp [orphO, *]; done) | (simp_all [orphO]; done) | skip)
theorem ec_Orphan (o : GObject) (ho : smallO o) : EC Tryz.prog 21 [.agg o.c] [] fun r N => N = [] ∧ r = r3e (orphO o) := by
  refine EC.finK ?_
  (refine nK E_ok call_21 Tryz.func21 Tryz.ntmps21 Tryz.results21 ?_)
  (repeat' (first | refine eK E_ok ?_ | refine EC.use (ec_pr_Valid o ho) ?_ | refine EC.use (ec_copied o ho) ?_ | refine zL ?_ | apply Lt.t2 | apply Lt.t3 | apply Lt.t4 | apply Lt.aggE | apply FzA.aggE | (with_reducible intro _) | with_reducible apply And.intro | exact trivial)) <;> (first | exact zA | exact ([] : List Own) | (simp [orphO, *]; done) | (simp_all [orphO]; done) | skip)
def without (x : Int) (l : List Int) : List Int := l.filter fun y => y != x
def reapR (o c : GObject) : GObject × Int × Int :=
  if (!prB o || !prB c) = true then (default, 0, 1) else if (!decide (c.ID ∈ o.Process.Children) || c.Process.Parent != o.ID) = true then (default, 0, 14)
  else if (c.Process.State != 3) = true then (default, 0, 12)
  else ({ o with Process := { o.Process with Children := without c.ID o.Process.Children } }, c.Process.Status, 0)
theorem ec_ref16_Reap (o c : GObject) (ho : smallO o) (hp : pendO o) (hc : smallO c) (hpc : pendO c) : EC Tryz.prog 10 [.agg o.c, .agg c.c] [] fun r N => N = [] ∧ r = r3r (reapR o c) := by
  refine EC.finK ?_
  (refine nK E_ok call_10 Tryz.func10 Tryz.ntmps10 Tryz.results10 ?_)
  (repeat' (first | refine eK E_ok ?_ | refine EC.use (ec_ref16_Valid o ho hp) ?_ | refine EC.use (ec_ref16_Valid c hc hpc) ?_ | refine EC.use (ec_ref03_HasS _ _ ho.1.1) ?_ | refine zL ?_ | apply Lt.t2 | apply Lt.t3 | apply Lt.t4 | apply Lt.aggE | apply FzA.aggE | (with_reducible intro _) | with_reducible apply And.intro | exact trivial)) <;> (first | exact zA | exact ([] : List Own) | (simp [reapR, *]; done) | (simp_all [reapR]; done) | skip)
  rename_i p1 p2 p3 p4
  have hcl := ho.1.1
  have hr : reapR o c = ({ o with Process := { o.Process with Children := without c.ID o.Process.Children } }, c.Process.Status, 0) := by
    unfold reapR
    rw [if_neg (by rw [p2]; simp), if_neg (by rw [p3]; simp), if_neg (by rw [p4]; simp)]
  rw [hr]
  refine EV_matr 7 22 1 rfl ?_
  intro hl
  refine EV_loopK E_ok [2, 3, 4, 45, 46] (fun x : Nat × List Int × RowH => [(47, .int .i64 x.1), (7, .row 3 x.2.2 1 0 x.2.1.length)]) (fun B x => updH B 3 x.2.2 (x.2.1.map (intC .u64))) (fun x => x.1 ≤ o.Process.Children.length ∧ x.2.1 = without c.ID (o.Process.Children.take x.1)) (fun x => o.Process.Children.length - x.1) (0, [], hl) ⟨Nat.zero_le _, rfl⟩ ?_
  rintro ⟨i, m, hh⟩ ⟨hi, hm⟩
  replace hi : i ≤ o.Process.Children.length := hi
  replace hm : m = without c.ID (o.Process.Children.take i) := hm
  have hw : IntKind.i64.wrap ((i : Int) + 1) = ((i + 1 : Nat) : Int) := by rw [i64_in' (by omega)]; omega
  have hml : m.length ≤ i := by rw [hm]; exact Nat.le_trans (List.length_filter_le ..) (by simp; omega)
  simp only [hw, push_cast, simprocAttr]
  have hs : i < o.Process.Children.length → without c.ID (o.Process.Children.take (i + 1)) = m ++ (if (o.Process.Children.getD i default != c.ID) = true then [o.Process.Children.getD i default] else []) := fun hlt => by
    have e : o.Process.Children.getD i default = o.Process.Children[i] := by simp [List.getD, hlt]
    rw [List.take_succ_eq_append_getElem hlt, e, hm]
    simp only [without, List.filter_append, List.filter_cons, List.filter_nil]
  refine ⟨fun h => ⟨⟨by omega, h⟩, fun g fr => ⟨by omega, NX_mk (i + 1, m ++ [o.Process.Children.getD i default], fr 3) ⟨by show i + 1 ≤ _; omega, ?_⟩⟩, fun g => NX_mk (i + 1, m, hh) ⟨by show i + 1 ≤ _; omega, ?_⟩⟩, fun h => ?_⟩
  · show _ = without c.ID (o.Process.Children.take (i + 1))
    rw [hs (by omega), if_pos g]
  · show _ = without c.ID (o.Process.Children.take (i + 1))
    rw [hs (by omega), if_neg (by rw [g]; simp), List.append_nil]
  · have e : i = o.Process.Children.length := by simp at h; omega
    rw [e, List.take_length] at hm
    (refine dD E_ok [] [false, false, true, false] [0, 1, 2, 3, 4, 5, 6] fol fun R hR => ?_; (repeat intro rh); (try refine sB ⟨?_⟩); (repeat ((with_reducible apply And.intro); exact sdB)); (repeat intro rh); (repeat ((with_reducible apply And.intro); exact sdB)); (try apply_assumption -exfalso))
    simp only [push_cast, simprocAttr]
    exact Lt.t3 (FzA.agg (FzL.put (FzL.O o) 5 (FzC.row rfl (by rw [hm]) (by rw [hm])) rfl)) FzA.int FzA.int
theorem famL_nodup {id : Int} {l : List Int} (h : famL id l = true) : l.Nodup := by
  simp only [famL, List.all_eq_true, List.mem_range, famP] at h
  rw [List.nodup_iff_pairwise_ne, List.pairwise_iff_getElem]
  intro i j hi hj hij he
  have h2 := h j hj
  have e : l.getD j default = l[j] := by simp [List.getD, hj]
  rw [e] at h2
  simp only [Bool.and_eq_true, Bool.not_eq_true', decide_eq_false_iff_not] at h2
  exact h2.2 (by rw [← he]; exact List.mem_take_iff_getElem.2 ⟨i, by omega, rfl⟩)
theorem idxI_le (x : Int) (l : List Int) : ∀ i : Nat, x ∈ l → (i : Int) ≤ idxI x i l := by
  induction l with
  | nil => intro i h; cases h
  | cons y t ih =>
    intro i h
    rw [idxI]
    by_cases e : x = y
    · rw [if_pos e]; omega
    · rw [if_neg e]
      have hxt : x ∈ t := by rcases List.mem_cons.1 h with h | h; exact absurd h e; exact h
      have := ih (i + 1) hxt
      omega
theorem without_idx (x : Int) : ∀ (l : List Int) (i : Nat), l.Nodup → x ∈ l → without x l = l.eraseIdx (idxI x i l - i).toNat
  | [], _, _, h => nomatch h
  | y :: t, i, hn, hx => by
    have hd := List.nodup_cons.1 hn
    rw [idxI]
    by_cases e : x = y
    · subst e
      rw [if_pos rfl]
      have h0 : ((i : Int) - i).toNat = 0 := by omega
      rw [h0, List.eraseIdx_cons_zero]
      have : (x != x) = false := by simp
      rw [without, List.filter_cons, this, if_neg (by simp)]
      exact List.filter_eq_self.2 fun z hz => by
        have : z ≠ x := fun e => hd.1 (e ▸ hz)
        simpa using this
    · rw [if_neg e]
      have hxt : x ∈ t := by rcases List.mem_cons.1 hx with h | h; exact absurd h e; exact h
      have hge : (i : Int) + 1 ≤ idxI x (i + 1) t := by
        have h1 := idxI_le x t (i + 1) hxt
        push_cast at h1; omega
      have ht := without_idx x t (i + 1) hd.2 hxt
      have h1 : (idxI x (i + 1) t - i).toNat = (idxI x (i + 1) t - ((i + 1 : Nat) : Int)).toNat + 1 := by push_cast; omega
      rw [h1, List.eraseIdx_cons_succ, ← ht]
      have : (y != x) = true := by simpa using Ne.symm e
      rw [without, List.filter_cons, this, if_pos rfl]
      rfl
theorem reap_eq (o c : GObject) : reapR o c = reapO o c := by
  unfold reapR reapO
  by_cases h1 : (!prB o || !prB c) = true
  · rw [if_pos h1, if_pos h1]
  rw [if_neg h1, if_neg h1]
  have hv : prB o = true := by simp at h1; exact h1.1
  have hm : (!decide (c.ID ∈ o.Process.Children)) = decide (idxI c.ID 0 o.Process.Children < 0) := by
    have := idxI_ge c.ID o.Process.Children 0
    rw [Bool.eq_iff_iff]
    simp only [Bool.not_eq_true', decide_eq_false_iff_not, decide_eq_true_eq, ← this]
    omega
  rw [hm]
  by_cases h2 : (decide (idxI c.ID 0 o.Process.Children < 0) || c.Process.Parent != o.ID) = true
  · rw [if_pos h2, if_pos h2]
  rw [if_neg h2, if_neg h2]
  have hmem : c.ID ∈ o.Process.Children := by
    rw [← idxI_ge c.ID o.Process.Children 0]; simp at h2; omega
  have hn : o.Process.Children.Nodup := by
    have h4 := (prB_only hv).2.2.2
    simp only [famB, Bool.and_eq_true] at h4
    exact famL_nodup h4.1
  have := without_idx c.ID o.Process.Children 0 hn hmem
  rw [show idxI c.ID 0 o.Process.Children - ((0 : Nat) : Int) = idxI c.ID 0 o.Process.Children by simp] at this
  rw [this]
end Go.Proofs.YtfmldmafigpblaaGreatDoor
end
