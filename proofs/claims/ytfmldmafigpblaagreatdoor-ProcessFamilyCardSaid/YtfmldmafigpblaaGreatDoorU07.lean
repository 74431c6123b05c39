/- Part 7: Ids, TopBase, Code, CodeB, Proc, ProcB, ProcC, ProcD, Page, PageB, File, Pipe, Port, PortB, Chan. -/
import Derived.Test.YtfmldmafigpblaaGreatDoorU04
import Derived.Test.YtfmldmafigpblaaGreatDoorU05
import Derived.Test.YtfmldmafigpblaaGreatDoorU06
section
namespace Go.Proofs.YtfmldmafigpblaaGreatDoor
open Go.Lift
set_option linter.unusedSimpArgs false
set_option linter.unusedVariables false
set_option maxRecDepth 10000
attribute [push_cast] Option.toList_none Option.toList_some
def idxI (x : Int) : Nat → List Int → Int
  | _, [] => -1
  | i, y :: t => if x = y then (i : Int) else idxI x (i + 1) t
theorem idxI_ge (x : Int) (l : List Int) : ∀ i, 0 ≤ idxI x i l ↔ x ∈ l := by
  induction l with
  | nil => intro i; simp [idxI]
  | cons y t ih =>
    intro i
    simp only [idxI, List.mem_cons]
    split
    · simp [*]
    · simp [*]
theorem idxI_step {x : Int} {l : List Int} {i : Nat} (h : i < l.length) : idxI x i (l.drop i) = if x = l.getD i default then (i : Int) else idxI x (i + 1) (l.drop (i + 1)) := by
  rw [List.drop_eq_getElem_cons h]
  simp [idxI, List.getD, h]
theorem ec_index_u64 (l : List Int) (x : Int) (hl : l.length ≤ 1000000) : EC Tryz.prog 27 [slL 1 (intC .u64) default l, .int .u64 x] [] fun r B => B = [] ∧ r = .int .i64 (idxI x 0 l) := by
  refine EC.fin (nA E_ok call_27 Tryz.func27 Tryz.ntmps27 Tryz.results27 ?_)
  (repeat (first | refine stepA ?_ | refine regA E_ok fun fr => ⟨?_⟩))
  refine EV_loopL [0, 1, 7] (fun i : Nat => [(8, .int .i64 i)]) (fun i => i ≤ l.length ∧ idxI x 0 l = idxI x i (l.drop i)) (fun i => l.length - i) 0 ⟨Nat.zero_le _, rfl⟩ ⟨rfl, trivial⟩ ?_
  rintro i ⟨hi, hx⟩
  refine sK ?_
  (repeat (first | refine stepA ?_ | refine regA E_ok fun fr => ⟨?_⟩))
  (apply EV_cond; exact rfl; all_goals intro h)
  · have hlt : i < l.length := by simp at h; omega
    clear h
    rw [idxI_step hlt] at hx
    (repeat (first | refine stepA ?_ | refine regA E_ok fun fr => ⟨?_⟩))
    (apply EV_cond; exact rfl; all_goals intro h)
    · have e : x = l.getD i default := by simpa using h
      rw [if_pos e] at hx
      (repeat (first | refine stepA ?_ | refine regA E_ok fun fr => ⟨?_⟩))
      ((try refine sC ?_); refine sF ?_; refine SLe.of_eq ?_; rw [hx])
    · have e : ¬ x = l.getD i default := by simpa using h
      rw [if_neg e] at hx
      (repeat (first | refine stepA ?_ | refine regA E_ok fun fr => ⟨?_⟩))
      ((try refine sT ?_); first | refine nxA (i + 1) ?_ ?_ | refine nxB (i + 1) ?_ ?_)
      · exact ⟨by omega, hx⟩
      · omega
  · have e : i = l.length := by simp at h; omega
    clear h
    rw [e, List.drop_length] at hx
    (repeat (first | refine stepA ?_ | refine regA E_ok fun fr => ⟨?_⟩))
    ((try refine sC ?_); refine sF ?_; refine SLe.of_eq ?_; rw [hx]; (try rfl))
theorem ec_contains_u64 (l : List Int) (x : Int) (hl : l.length ≤ 1000000) : EC Tryz.prog 39 [slL 1 (intC .u64) default l, .int .u64 x] [] fun r B => B = [] ∧ r = .bool (decide (x ∈ l)) := by
  refine EC.fin (nA E_ok call_39 Tryz.func39 Tryz.ntmps39 Tryz.results39 ?_)
  (repeat (first | refine stepA ?_ | refine regA E_ok fun fr => ⟨?_⟩))
  (try refine regA E_ok fun fr => ⟨?_⟩)
  (refine EC.use (ec_index_u64 l x hl) ?_; (try simp only [hg]); refine gA E_ok fun fr => ⟨?_⟩)
  (repeat (first | refine stepA ?_ | refine regA E_ok fun fr => ⟨?_⟩))
  ((try refine sC ?_); refine sF ?_; refine SLe.of_eq ?_; simp only [idxI_ge])
theorem ec_ref03_HasS (l : List Int) (x : Int) (hl : l.length ≤ 1000000) : EC Tryz.prog 30 [slL 1 (intC .u64) default l, .int .u64 x] [] fun r B => B = [] ∧ r = .bool (decide (x ∈ l)) := by
  refine EC.fin (nA E_ok call_30 Tryz.func30 Tryz.ntmps30 Tryz.results30 ?_)
  (repeat (first | refine stepA ?_ | refine regA E_ok fun fr => ⟨?_⟩))
  refine EV_loopL [0, 1, 7, 8] (fun i : Nat => [(9, .int .i64 i)]) (fun i => i ≤ l.length ∧ x ∉ l.take i) (fun i => l.length - i) 0 ⟨Nat.zero_le _, by simp⟩ ⟨rfl, trivial⟩ ?_
  rintro i ⟨hi, hx⟩
  refine sK ?_
  (repeat (first | refine stepA ?_ | refine regA E_ok fun fr => ⟨?_⟩))
  (apply EV_cond; exact rfl; all_goals intro h)
  · have hlt : i < l.length := by simp at h; omega
    clear h
    (repeat (first | refine stepA ?_ | refine regA E_ok fun fr => ⟨?_⟩))
    (apply EV_cond; exact rfl; all_goals intro h)
    · have e : x ∈ l := by
        have : l.getD i default = x := by simpa using h
        rw [← this]; exact getD_mem hlt
      (repeat (first | refine stepA ?_ | refine regA E_ok fun fr => ⟨?_⟩))
      ((try refine sC ?_); refine sF ?_; refine SLe.of_eq ?_; simp [e])
    · have e : ¬ l.getD i default = x := by simpa using h
      (repeat (first | refine stepA ?_ | refine regA E_ok fun fr => ⟨?_⟩))
      ((try refine sT ?_); first | refine nxA (i + 1) ?_ ?_ | refine nxB (i + 1) ?_ ?_)
      · refine ⟨by omega, ?_⟩
        rw [List.take_succ_eq_append_getElem hlt]
        have : l.getD i default = l[i] := by simp [List.getD, hlt]
        rw [this] at e
        simp only [List.mem_append, List.mem_singleton, not_or]
        exact ⟨hx, fun h => e h.symm⟩
      · omega
  · have e : i = l.length := by simp at h; omega
    clear h
    rw [e, List.take_length] at hx
    (repeat (first | refine stepA ?_ | refine regA E_ok fun fr => ⟨?_⟩))
    ((try refine sC ?_); refine sF ?_; refine SLe.of_eq ?_; simp [hx])
def idP (l : List Int) (i : Nat) : Bool := !(l.getD i default == 0) && !decide (l.getD i default ∈ l.take i)
def idsOk (l : List Int) : Bool := (List.range l.length).all (idP l)
end Go.Proofs.YtfmldmafigpblaaGreatDoor
end
section
namespace Go.Proofs.YtfmldmafigpblaaGreatDoor
set_option linter.unusedVariables false
set_option linter.unusedSimpArgs false
open Go.Lift Go.ChangeShapes Go.WideShapes Go.ChangeAt Go.RowKit
theorem u8_wf {n : Int} (h : (Lit.int .u8 n).wf = true) : 0 ≤ n ∧ n ≤ 255 := by
  have h1 : IntKind.u8.min = 0 := rfl
  have h2 : IntKind.u8.max = 255 := rfl
  simp only [Lit.wf, Bool.and_eq_true, decide_eq_true_eq] at h
  omega
theorem i64_wf' {n : Int} (h : (Lit.int .i64 n).wf = true) : -9223372036854775808 ≤ n ∧ n ≤ 9223372036854775807 := by
  have h1 : IntKind.i64.min = -9223372036854775808 := rfl
  have h2 : IntKind.i64.max = 9223372036854775807 := rfl
  simp only [Lit.wf, Bool.and_eq_true, decide_eq_true_eq] at h
  omega
end Go.Proofs.YtfmldmafigpblaaGreatDoor
end
section
namespace Go.Proofs.YtfmldmafigpblaaGreatDoor
open Go.Lift
set_option linter.unusedSimpArgs false
set_option linter.unusedVariables false
set_option maxRecDepth 10000
theorem ec_long (s : List UInt8) : EC Tryz.prog 58 [.str s] [] fun r N => N = [] ∧ r = .bool (decide (128 < (s.length : Int))) := by
  refine EC.finK ?_
  (refine nK E_ok call_58 Tryz.func58 Tryz.ntmps58 Tryz.results58 ?_)
  (repeat' (first | refine eK E_ok ?_ | refine zL ?_ | apply Lt.t2 | apply Lt.t3 | apply Lt.t4 | apply Lt.aggE | apply FzA.aggE | (with_reducible intro _) | with_reducible apply And.intro | exact trivial)) <;> (first | exact zA | exact ([] : List Own) | skip)
def ftB (c : Int) (n len : Int) : Bool := if c == 114 then decide (0 ≤ n) && decide (n < 8) else if c == 110 then decide (-9007199254740992 ≤ n) && decide (n ≤ 9007199254740992) else if c == 116 then decide (0 ≤ n) && decide (n ≤ len) else if c == 111 then decide (0 ≤ n) && decide (n ≤ 256) else decide (1 ≤ n) && decide (n ≤ 24)
theorem ec_fits (c n len : Int) : EC Tryz.prog 89 [.int .u8 c, .int .i64 n, .int .i64 len] [] fun r N => N = [] ∧ r = .bool (ftB c n len) := by
  refine EC.finK ?_
  (refine nK E_ok call_89 Tryz.func89 Tryz.ntmps89 Tryz.results89 ?_)
  (repeat' (first | refine eK E_ok ?_ | refine zL ?_ | apply Lt.t2 | apply Lt.t3 | apply Lt.t4 | apply Lt.aggE | apply FzA.aggE | (with_reducible intro _) | with_reducible apply And.intro | exact trivial)) <;> (first | exact zA | exact ([] : List Own) | (simp [ftB, *]; done) | (simp_all [ftB]; done) | skip)
end Go.Proofs.YtfmldmafigpblaaGreatDoor
end
section
namespace Go.Proofs.YtfmldmafigpblaaGreatDoor
open Go.Lift
set_option linter.unusedSimpArgs false
set_option linter.unusedVariables false
set_option maxRecDepth 10000
def opnd (op : Int) : List UInt8 := match op.toNat with | 1 => [114, 110] | 2 => [114, 114] | 3 => [114, 114, 114] | 4 => [114, 114, 114] | 5 => [114, 114, 114] | 6 => [114, 114, 114] | 7 => [114, 114, 114] | 8 => [116] | 9 => [114, 116] | 10 => [114, 114, 111] | 11 => [114, 114, 111] | 12 => [99] | _ => []
def argAt (x : GInstr) (i : Nat) : Int := [x.A, x.B, x.C].getD i 0
def okAt (x : GInstr) (len : Int) (i : Nat) : Bool := if ((opnd x.Op).length : Int) ≤ i then argAt x i == 0 else ftB ((opnd x.Op).getD i 0).toNat (argAt x i) len
def rightB (x : GInstr) (len : Int) : Bool := decide (0 ≤ x.Op) && decide (x.Op < 13) && (okAt x len 0 && okAt x len 1 && okAt x len 2)
def nmOf (op : Int) : List UInt8 := match op.toNat with | 0 => [110, 111, 112] | 1 => [115, 101, 116] | 2 => [109, 111, 118, 101] | 3 => [97, 100, 100] | 4 => [115, 117, 98] | 5 => [109, 117, 108] | 6 => [108, 101, 115, 115] | 7 => [101, 113, 117, 97, 108] | 8 => [106, 117, 109, 112] | 9 => [105, 102] | 10 => [108, 111, 97, 100] | 11 => [115, 116, 111, 114, 101] | 12 => [99, 97, 108, 108] | _ => []
theorem forms_at {op : Int} (h : 0 ≤ op ∧ op < 13) : List.take 2 (List.drop (op.toNat * 2) (GV 0)) = GForm.c { name := nmOf op, operands := opnd op } := by
  obtain ⟨n, rfl⟩ := Int.eq_ofNat_of_zero_le h.1
  have hn : n < 13 := by omega
  simp only [nmOf, opnd, Int.toNat_natCast]
  match n, hn with
  | 0, _ | 1, _ | 2, _ | 3, _ | 4, _ | 5, _ | 6, _ | 7, _ | 8, _ | 9, _ | 10, _ | 11, _ | 12, _ => rfl
theorem ec_right (x : GInstr) (len : Int) : EC Tryz.prog 60 [.agg x.c, .int .i64 len] [] fun r N => N = [] ∧ r = .bool (rightB x len) := by
  refine EC.finK ?_
  (refine nK E_ok call_60 Tryz.func60 Tryz.ntmps60 Tryz.results60 ?_)
  intro fr
  refine ⟨fun h => Lt.bool ?_, fun h fr1 => ?_⟩
  · have : ¬ (0 ≤ x.Op ∧ x.Op < 13) := by simp at h; omega
    simp only [rightB]
    simp; omega
  · have hr : 0 ≤ x.Op ∧ x.Op < 13 := by simp at h; omega
    have e := forms_at hr
    simp only [GV] at e
    simp only [e, push_cast, simprocAttr]
    refine ⟨⟨hr.1, hr.2, by omega⟩, by omega, ?_⟩
    have hb : rightB x len = (okAt x len 0 && okAt x len 1 && okAt x len 2) := by simp [rightB, hr]
    rw [hb]
    refine EV_loopK E_ok [26, 5, 1] (fun i : Nat => [(27, .int .i64 i)]) (fun B _ => B) (fun i => i ≤ 3 ∧ ∀ j, j < i → okAt x len j = true) (fun i => 3 - i) 0 ⟨by omega, by omega⟩ ?_
    rintro i ⟨hi, hok⟩
    clear e
    rcases (show i = 3 ∨ i < 3 by omega) with rfl | h3
    · have o := fun j h => hok j h
      simp only [push_cast, simprocAttr]
      rw [o 0 (by omega), o 1 (by omega), o 2 (by omega)]
      exact Lt.bool rfl
    have ea : (A3i64.c { x0 := x.A, x1 := x.B, x2 := x.C }).getD i SV.any = .int .i64 (argAt x i) := by
      rcases (show i = 0 ∨ i = 1 ∨ i = 2 by omega) with rfl | rfl | rfl <;> rfl
    have hz : okAt x len i = false → (okAt x len 0 && okAt x len 1 && okAt x len 2) = false := by
      rcases (show i = 0 ∨ i = 1 ∨ i = 2 by omega) with rfl | rfl | rfl <;> (intro e; simp [e])
    have hs : okAt x len i = true → i + 1 ≤ 3 ∧ ∀ j, j < i + 1 → okAt x len j = true := fun e => ⟨by omega, fun j hj => by
      rcases (show j < i ∨ j = i by omega) with h | rfl
      · exact hok j h
      · exact e⟩
    have hw : IntKind.i64.wrap ((i : Int) + 1) = ((i + 1 : Nat) : Int) := by rw [i64_in' (by omega)]; omega
    have h3' : (i : Int) < 3 := by omega
    by_cases hl : ((opnd x.Op).length : Int) ≤ i
    · have hk : okAt x len i = (argAt x i == 0) := by rw [okAt, if_pos hl]
      have hl2 : ¬ (i : Int) < (opnd x.Op).length := by omega
      simp only [ea, hl, hl2, h3', hw, push_cast, simprocAttr]
      refine ⟨⟨by omega, h3⟩, ?_⟩
      (repeat (refine EOK_run (m := 0) E_ok ?_; simp only [hw, push_cast, simprocAttr]))
      exact ⟨fun e => Lt.bool (hz (by rw [hk]; simpa using e)).symm, fun e => NX_mk (i + 1) (hs (by rw [hk]; simpa using e))⟩
    · have hk : okAt x len i = ftB ((opnd x.Op).getD i 0).toNat (argAt x i) len := by rw [okAt, if_neg hl]
      have hl2 : (i : Int) < (opnd x.Op).length := by omega
      simp only [ea, hl, hl2, h3', hw, push_cast, simprocAttr]
      refine ⟨⟨by omega, h3⟩, by omega, ?_⟩
      (refine EC.use (ec_fits _ _ _) ?_; refine EOK_run (m := 0) E_ok ?_; simp only [hw, hl, hl2, push_cast, simprocAttr])
      exact ⟨fun e => Lt.bool (hz (by rw [hk]; simpa using e)).symm, fun e => NX_mk (i + 1) (hs (by rw [hk]; simpa using e))⟩
theorem ec_indexFunc_str {g : FuncId} {p : List UInt8 → Bool} (l : List (List UInt8)) (hl : l.length ≤ 1000000)
    (hg : ∀ q : List UInt8, EC Tryz.prog g [.str q] [] fun r N => N = [] ∧ r = .bool (p q)) :
    EC Tryz.prog 88 [slL 1 strC default l, .fn g []] [] fun r N => N = [] ∧ r = .int .i64 (idxP p 0 l) := by
  refine EC.finK ?_
  (refine nK E_ok call_88 Tryz.func88 Tryz.ntmps88 Tryz.results88 ?_)
  refine EV_loopK E_ok [0, 1, 7] (fun i : Nat => [(8, .int .i64 i)]) (fun B _ => B) (fun i => i ≤ l.length ∧ idxP p 0 l = idxP p i (l.drop i)) (fun i => l.length - i) 0 ⟨Nat.zero_le _, rfl⟩ ?_
  rintro i ⟨hi, hx⟩
  simp only [push_cast, simprocAttr]
  refine ⟨fun h => ⟨⟨by omega, h⟩, ?_⟩, fun h => Lt.int ?_⟩
  · have hlt : i < l.length := by omega
    have hw : IntKind.i64.wrap ((i : Int) + 1) = ((i + 1 : Nat) : Int) := by rw [i64_in' (by omega)]; omega
    rw [idxP_step hlt] at hx
    (refine EC.use (hg _) ?_; refine EOK_run (m := 0) E_ok ?_; simp only [hw, push_cast, simprocAttr])
    refine ⟨fun e => Lt.int ?_, fun e => NX_mk (i + 1) ⟨by omega, ?_⟩⟩
    · rw [hx, if_pos e]
    · rw [hx, e, if_neg (by simp)]
  · have e : i = l.length := by simp at h; omega
    rw [hx, e, List.drop_length]; rfl
theorem ec_containsFunc_str {g : FuncId} {p : List UInt8 → Bool} (l : List (List UInt8)) (hl : l.length ≤ 1000000)
    (hg : ∀ q : List UInt8, EC Tryz.prog g [.str q] [] fun r N => N = [] ∧ r = .bool (p q)) :
    EC Tryz.prog 59 [slL 1 strC default l, .fn g []] [] fun r N => N = [] ∧ r = .bool (l.any p) := by
  refine EC.finK ?_
  (refine nK E_ok call_59 Tryz.func59 Tryz.ntmps59 Tryz.results59 ?_)
  (refine EC.use (ec_indexFunc_str l hl hg) ?_; refine eK E_ok ?_)
  exact Lt.bool (idxP_ge _ _ _)
def chkE (p : GProgram) : Int := if decide (256 < (p.Code.length : Int)) || decide (32 < (p.Strings.length : Int)) || p.Strings.any (fun s => decide (128 < (s.length : Int))) then 3 else if decide (p.Pages < 0) || decide (16 < p.Pages) then 2 else if p.Code.all (fun x => rightB x p.Code.length) then 0 else 1
theorem ec_Check (p : GProgram) (h1 : p.Code.length ≤ 1000000) (h2 : p.Strings.length ≤ 1000000) : EC Tryz.prog 33 [.agg p.c] [] fun r N => N = [] ∧ ∃ x : Int, True ∧ r = .tup [.int .i64 x, .int .i64 (chkE p)] := by
  refine EC.finKP ?_
  (refine nK E_ok call_33 Tryz.func33 Tryz.ntmps33 Tryz.results33 ?_)
  intro fr
  cases h : (decide (256 < (p.Code.length : Int)) || decide (32 < (p.Strings.length : Int))) with
  | true =>
    refine ⟨fun h => (nomatch h), fun _ => ?_⟩
    (repeat refine eK E_ok ?_)
    exact ⟨0, Lt.t2 FzA.int (FzA.intE (by simp only [chkE, h, Bool.true_or, if_true]))⟩
  | false =>
    refine ⟨fun _ => ?_, fun h => (nomatch h)⟩
    (refine EC.use (ec_containsFunc_str _ h2 ec_long) ?_; refine eK E_ok ?_)
    refine ⟨fun h2 => ⟨0, Lt.t2 FzA.int (FzA.intE (by simp only [chkE, h, h2, Bool.false_or, if_true]))⟩, fun h2 => ⟨fun h3 => ⟨0, Lt.t2 FzA.int (FzA.intE (by simp [chkE, h, h2, h3]))⟩, fun h3 => ?_⟩⟩
    have hc : chkE p = if p.Code.all (fun x => rightB x p.Code.length) then 0 else 1 := by simp only [chkE, h, h2, h3, Bool.false_or, if_false, Bool.false_eq_true]
    refine EV_loopK E_ok [34, 35, 1] (fun i : Nat => [(36, .int .i64 i)]) (fun B _ => B) (fun i => i ≤ p.Code.length ∧ (p.Code.take i).all (fun x => rightB x p.Code.length) = true) (fun i => p.Code.length - i) 0 ⟨Nat.zero_le _, rfl⟩ ?_
    rintro i ⟨hi, hx⟩
    have hw : IntKind.i64.wrap ((i : Int) + 1) = ((i + 1 : Nat) : Int) := by rw [i64_in' (by omega)]; omega
    simp only [hw, push_cast, simprocAttr]
    refine ⟨fun e fr1 => ⟨⟨by omega, e⟩, ?_⟩, fun e => ⟨0, Lt.t2 FzA.int (FzA.intE ?_)⟩⟩
    · have hlt : i < p.Code.length := by omega
      (refine EC.use (ec_right _ _) ?_; refine EOK_run (m := 0) E_ok ?_; simp only [hw, push_cast, simprocAttr])
      refine ⟨fun e => ⟨i, Lt.t2 FzA.int (FzA.intE ?_)⟩, fun e => NX_mk (i + 1) ⟨by omega, ?_⟩⟩
      · rw [hc, all_fail hlt e, if_neg (by simp)]
      · exact all_succ hlt hx (by simpa using e)
    · have e : i = p.Code.length := by simp at e; omega
      rw [e, List.take_length] at hx
      rw [hc, hx, if_pos rfl]
end Go.Proofs.YtfmldmafigpblaaGreatDoor
end
section
namespace Go.Proofs.YtfmldmafigpblaaGreatDoor
open Go.Lift
set_option linter.unusedSimpArgs false
set_option linter.unusedVariables false
set_option maxRecDepth 10000
theorem wrap1 {i n : Nat} (hi : i < n) (hn : n ≤ 1000000) : IntKind.i64.wrap ((i : Int) + 1) = ((i + 1 : Nat) : Int) := by rw [i64_in' (by omega)]; omega
def famP (id : Int) (l : List Int) (i : Nat) : Bool := !(l.getD i default == 0) && !(l.getD i default == id) && !decide (l.getD i default ∈ l.take i)
def famL (id : Int) (l : List Int) : Bool := (List.range l.length).all (famP id l)
def famB (o : GObject) : Bool := famL o.ID o.Process.Children && (o.Process.Parent != o.ID && decide ((o.Process.Children.length : Int) ≤ 32))
theorem rangeAll_no {p : Nat → Bool} {n i : Nat} (h : i < n) (hp : p i = false) : (List.range n).all p = false := by
  simp only [List.all_eq_false]
  exact ⟨i, by simpa using h, by simp [hp]⟩
theorem rangeAll_step {p : Nat → Bool} {i : Nat} (h : (List.range i).all p = true) (hp : p i = true) : (List.range (i + 1)).all p = true := by rw [List.range_succ, List.all_append, h]; simp [hp]
theorem ec_family (o : GObject) (ho : o.Process.Children.length ≤ 1000000) : EC Tryz.prog 44 [.agg o.c] [] fun r N => N = [] ∧ r = .bool (famB o) := by
  refine EC.finK ?_
  (refine nK E_ok call_44 Tryz.func44 Tryz.ntmps44 Tryz.results44 ?_)
  intro fr fr1
  refine EV_loopK E_ok [9, 10, 1, 3] (fun i : Nat => [(11, .int .i64 i)]) (fun B _ => B) (fun i => i ≤ o.Process.Children.length ∧ (List.range i).all (famP o.ID o.Process.Children) = true) (fun i => o.Process.Children.length - i) 0 ⟨Nat.zero_le _, rfl⟩ ?_
  rintro i ⟨hi, hx⟩
  have hsub := sub_elt0 (fl := false) (e := 1) (c := intC .u64) (d := default) hi
  simp only [hsub, push_cast, simprocAttr]
  refine ⟨fun h => ⟨⟨by omega, h⟩, fun g => ⟨g, by omega, hi⟩, fun g => ?_, fun g => ?_⟩, fun h => Lt.bool ?_⟩
  · have hlt : i < o.Process.Children.length := by omega
    have hp := fun e : famP o.ID o.Process.Children i = false => rangeAll_no (p := famP o.ID o.Process.Children) hlt e
    (refine EC.use (ec_contains_u64 _ _ (by simp; omega)) ?_; refine EOK_run (m := 0) E_ok ?_; simp only [wrap1 hlt ho, g, push_cast, simprocAttr])
    simp only [Bool.or_eq_false_iff] at g
    refine ⟨fun e => Lt.bool ?_, fun e => NX_mk (i + 1) ⟨by omega, rangeAll_step hx ?_⟩⟩
    · rw [famB, famL, hp (by rw [famP, g.1, g.2, decide_eq_true e]; rfl), Bool.false_and]
    · rw [famP, g.1, g.2, e]; rfl
  · have hlt : i < o.Process.Children.length := by omega
    have hp := fun e : famP o.ID o.Process.Children i = false => rangeAll_no (p := famP o.ID o.Process.Children) hlt e
    rw [Bool.not_eq_false'] at g
    (repeat (refine EOK_run (m := 0) E_ok ?_; simp only [wrap1 hlt ho, g, push_cast, simprocAttr]))
    refine Lt.bool ?_
    rw [famB, famL, hp, Bool.false_and]
    rw [famP, ← Bool.not_or, g]; rfl
  · have e : i = o.Process.Children.length := by simp at h; omega
    subst e
    rw [famB, famL, hx, Bool.true_and]
def prB (o : GObject) : Bool :=
  if o.Kind != 1 || o.ID == 0 || !onlyB o 2 || !famB o then false
  else if o.Process.State == 3 then o.Process.Parent != 0 && restB o.Process
  else if o.Process.State == 1 || o.Process.State == 2 then chkE o.Process.Program == 0 && spOk o.Process.Pages && tbOk o.Process.Table && sigOk o.Process.Pending && decide (0 ≤ o.Process.Alarm) && decide (o.Process.Alarm ≤ 1073741824) && (o.Process.State == 2 || o.Process.Status == 0)
  else false
set_option maxHeartbeats 1000000 in
theorem ec_pr_Valid (o : GObject) (ho : smallO o) : EC Tryz.prog 23 [.agg o.c] [] fun r N => N = [] ∧ r = .bool (prB o) := by
  refine EC.finK ?_
  (refine nK E_ok call_23 Tryz.func23 Tryz.ntmps23 Tryz.results23 ?_)
  (repeat' (first | refine eK E_ok ?_ | refine EC.use (ec_blank_Only o 2 ho) ?_ | refine EC.use (ec_family o ho.1.1) ?_ | refine EC.use (ec_blank_Rest _ ho.1) ?_ | (refine EC.useP (ec_Check _ ho.1.2.1 ho.1.2.2.1) ?_; intro x hx) | refine EC.use (ec_space_Valid _ ho.1.2.2.2.1) ?_ | refine EC.use (ec_table_Valid _ ho.1.2.2.2.2) ?_ | refine EC.use (ec_signal_Valid _) ?_ | refine zL ?_ | apply Lt.t2 | apply Lt.t3 | apply Lt.t4 | apply Lt.aggE | apply FzA.aggE | (with_reducible intro _) | with_reducible apply And.intro | exact trivial)) <;> (first | exact zA | exact ([] : List Own) | (simp [prB, *]; done) | (simp_all [prB]; done) | skip)
end Go.Proofs.YtfmldmafigpblaaGreatDoor
end
section
namespace Go.Proofs.YtfmldmafigpblaaGreatDoor
open Go.Lift
set_option linter.unusedSimpArgs false
set_option linter.unusedVariables false
set_option maxRecDepth 10000
theorem ec_clone_i64 (l : List Int) (hl : l.length ≤ 1000000) : EC Tryz.prog 84 [slL 1 (intC .i64) default l] [] fun r N => N = [] ∧ r = slL 1 (intC .i64) default l := by
  refine EC.finK ?_
  (refine nK E_ok call_84 Tryz.func84 Tryz.ntmps84 Tryz.results84 ?_)
  intro fr
  refine ⟨fun h => ?_, fun h _ => ⟨by omega, Lt.row rfl rfl rfl⟩⟩
  rw [nil_of h]
  exact ⟨trivial, sle_nilL⟩
def nmS (n : Nat) (h : RowH) (i : Nat) : SV := .row i h 3 0 n
attribute [push_cast] nmS
theorem ec_clone_Name (l : List GName) (hl : l.length ≤ 1000000) : EC Tryz.prog 87 [slL 3 GName.c default l] [] fun r N => ∃ h : RowH, r = nmS l.length h 0 ∧ N = [.row h 70 3 (l.map GName.c)] := by
  refine EC.matr 70 3 (EC.ret ?_)
  (refine nK E_ok call_87 Tryz.func87 Tryz.ntmps87 Tryz.results87 ?_)
  refine fun fr => ⟨fun h => ?_, fun h fr1 => ⟨by omega, _, SLe.refl _, .inl ⟨_, rfl, rfl⟩⟩⟩
  rw [nil_of h]
  exact ⟨_, SLe.refl _, .inr ⟨_, rfl, fun hh => ⟨hh, rfl, rfl⟩⟩⟩
theorem ec_clone_Object (o : GObject) (ho : smallO o) : EC Tryz.prog 56 [.agg o.c] [] fun r N => N = [] ∧ r = .agg o.c := by
  obtain ⟨hp, h1, h2, h3, h4, h5, h6, h7⟩ := ho
  refine EC.finK ?_
  (refine nK E_ok call_56 Tryz.func56 Tryz.ntmps56 Tryz.results56 ?_)
  intro fr
  (refine EC.use (ec_clone_Process _ hp) ?_; refine eK E_ok ?_)
  (refine dD E_ok [10, 12, 14] [false, false] [0, 1, 3, 4, 6, 7, 2, 9, 5, 8, 10, 11, 12, 13, 14] fol fun R hR => ?_; (repeat intro rh); (try refine sB ⟨?_⟩); (repeat ((with_reducible apply And.intro); exact sdB)); (repeat intro rh); (repeat ((with_reducible apply And.intro); exact sdB)); (try apply_assumption -exfalso))
  (refine EC.use (ec_clone_i64 _ h1) ?_; (try simp only [hg]); refine dR E_ok [9, 5, 8, 10, 11, 12, 13, 14] ?_; (repeat intro rh); (try refine sB ⟨?_⟩); (repeat ((with_reducible apply And.intro); exact sdB)); (first | apply_assumption -exfalso | (try simp only [thenP])))
  (refine EC.use (ec_clone_u8 _ h2) ?_; (try simp only [hg]); refine dR E_ok [8, 10, 11, 12, 13, 14] ?_; (repeat intro rh); (try refine sB ⟨?_⟩); (repeat ((with_reducible apply And.intro); exact sdB)); (first | apply_assumption -exfalso | (try simp only [thenP])))
  (refine EC.use (ec_clone_u64 _ h3) ?_; (try simp only [hg]); refine dR E_ok [10, 11, 12, 13, 14] ?_; (repeat intro rh); (try refine sB ⟨?_⟩); (repeat ((with_reducible apply And.intro); exact sdB)); (first | apply_assumption -exfalso | (try simp only [thenP])))
  simp only [push_cast, simprocAttr]
  refine EV_loopK E_ok [24, 1, 2] (fun i : Nat => [(25, .int .i64 i)]) (fun B _ => B) (fun i => i ≤ 2) (fun i => 2 - i) 0 (Nat.zero_le _) ?_
  intro i hi
  rcases (show i = 0 ∨ i = 1 ∨ i = 2 by omega) with rfl | rfl | rfl
  · simp only [push_cast, simprocAttr]
    (refine EC.use (ec_clone_u8 _ h4) ?_; refine eK E_ok ?_)
    exact NX_mk 1 (by decide)
  · simp only [push_cast, simprocAttr]
    (refine EC.use (ec_clone_u8 _ h5) ?_; refine eK E_ok ?_)
    exact NX_mk 2 (by decide)
  simp only [push_cast, simprocAttr]
  refine EC.useM (ec_clone_Name _ h6) (fun _ _ _ => SLe.row) ?_
  intro rh
  (repeat refine eK E_ok ?_)
  clear hR R
  refine EV_loopK E_ok [1, 2, 40, 41] (fun i : Nat => [(42, .int .i64 i)]) (fun B _ => B) (fun i => i ≤ o.Names.length) (fun i => o.Names.length - i) 0 (Nat.zero_le _) ?_
  intro i hi
  rcases Nat.lt_or_eq_of_le hi with hlt | rfl
  · have hg : (List.map GName.c o.Names).getD i [] = GName.c (o.Names.getD i default) := getD_map2 hlt
    have hs : (List.map GName.c o.Names).set i (GName.c (o.Names.getD i default)) = List.map GName.c o.Names := by
      rw [map_set2, show o.Names.getD i default = o.Names[i] by simp [List.getD, hlt], List.set_getElem_self]
    have hlt' : (i : Int) < o.Names.length := by omega
    simp only [hg, hlt', push_cast, simprocAttr]
    intro fr2
    (repeat refine sd ?_)
    (refine dD E_ok [] [false, false, true, false] [0, 1, 2, 3, 4, 5, 6, 7, 8] fol fun R hR => ?_; (repeat intro rh); (try refine sB ⟨?_⟩); (repeat ((with_reducible apply And.intro); exact sdB)); (repeat intro rh); (repeat ((with_reducible apply And.intro); exact sdB)); (try apply_assumption -exfalso))
    (refine EC.use (ec_clone_u64 _ (h7 _ (getD_mem hlt)).1) ?_; (try simp only [hg]); refine dR E_ok [6, 7, 8] ?_; (repeat intro rh); (try refine sB ⟨?_⟩); (repeat ((with_reducible apply And.intro); exact sdB)); (first | apply_assumption -exfalso | (try simp only [thenP])))
    simp only [hs, wrap1 hlt h6, push_cast, simprocAttr]
    exact NX_mk (i + 1) hlt
  · simp only [push_cast, simprocAttr]
    (repeat refine sd ?_)
    exact fun _ => Lt.agg (FzL.put (FzL.O o) 35 (FzC.row rfl rfl rfl) rfl)
theorem ec_copied (o : GObject) (ho : smallO o) : EC Tryz.prog 28 [.agg o.c] [] fun r N => N = [] ∧ r = .agg o.c := by
  refine EC.finK ?_
  (refine nK E_ok call_28 Tryz.func28 Tryz.ntmps28 Tryz.results28 ?_)
  intro fr
  (refine EC.use (ec_clone_Object o ho) ?_; refine eK E_ok ?_)
  exact Lt.agg (FzL.O o)
def childO (o : GObject) (id : Int) : GObject := { o with ID := id, Process := { o.Process with Parent := o.ID, Children := [], Pending := 0, Alarm := 0 } }
theorem ec_child (o : GObject) (id : Int) (ho : smallO o) : EC Tryz.prog 41 [.agg o.c, .int .u64 id] [] fun r N => N = [] ∧ r = .agg (childO o id).c := by
  refine EC.finK ?_
  (refine nK E_ok call_41 Tryz.func41 Tryz.ntmps41 Tryz.results41 ?_)
  intro fr
  (refine EC.use (ec_copied o ho) ?_; refine eK E_ok ?_)
  intro fr1
  (refine dD E_ok [] [false, false, true] [0, 1, 2, 3, 4, 5, 6, 7, 8] fol fun R hR => ?_; (repeat intro rh); (try refine sB ⟨?_⟩); (repeat ((with_reducible apply And.intro); exact sdB)); (repeat intro rh); (repeat ((with_reducible apply And.intro); exact sdB)); (try apply_assumption -exfalso))
  simp only [push_cast, simprocAttr]
  (repeat refine sd ?_)
  exact Lt.agg (FzL.put (FzL.put (FzL.put (FzL.O _) 5 FzC.nil (GObject.p5 _ [])) 20 FzC.int rfl) 21 FzC.int rfl)
end Go.Proofs.YtfmldmafigpblaaGreatDoor
end
section
namespace Go.Proofs.YtfmldmafigpblaaGreatDoor
open Go.Lift
set_option linter.unusedSimpArgs false
set_option linter.unusedVariables false
set_option maxRecDepth 10000
theorem E2_ok : EnvOK Tryz.prog (envK E) := envK_ok E_ok
def u64S (n : Nat) (h : RowH) (i : Nat) : SV := .row i h 1 0 n
attribute [push_cast] u64S
theorem ec_clone_u64M (l : List Int) (hl : l.length ≤ 1000000) : EC Tryz.prog 86 [slL 1 (intC .u64) default l] [] fun r N => ∃ h : RowH, r = u64S l.length h 0 ∧ N = [.row h 22 1 (l.map (intC .u64))] := by
  refine EC.matr 22 1 (EC.ret ?_)
  (refine nK E_ok call_86 Tryz.func86 Tryz.ntmps86 Tryz.results86 ?_)
  refine fun fr => ⟨fun h => ?_, fun h fr1 => ⟨by omega, _, SLe.refl _, .inl ⟨_, rfl, rfl⟩⟩⟩
  rw [nil_of h]
  exact ⟨_, SLe.refl _, .inr ⟨_, rfl, fun hh => ⟨hh, rfl, rfl⟩⟩⟩
theorem ec_clone_NameF (l : List GName) (hl : l.length ≤ 1000000) : EC Tryz.prog 87 [slL 3 GName.c default l] [] fun r N => N = [] ∧ r = slL 3 GName.c default l := by
  refine EC.finK ?_
  (refine nK E_ok call_87 Tryz.func87 Tryz.ntmps87 Tryz.results87 ?_)
  intro fr
  refine ⟨fun h => ?_, fun h _ => ⟨by omega, Lt.row rfl rfl rfl⟩⟩
  rw [nil_of h]
  exact ⟨trivial, sle_nilL⟩
def chS (p : GProcess) (h : RowH) (i : Nat) : SV := .agg (putL p.c 2 [.row i h 1 0 p.Children.length])
theorem chS_le (p : GProcess) (h : RowH) (i j : Nat) : SLe (chS p h i) (chS p h j) := SLe.agg (LLe.put (LLe.refl _) 2 SLe.row rfl)
set_option maxHeartbeats 1000000 in
theorem ec_clone_ProcessM (p : GProcess) (hp : smallP p) : EC Tryz.prog 83 [.agg p.c] [] fun r N => ∃ h, r = chS p h 0 ∧ N = [.row h 22 1 (p.Children.map (intC .u64))] := by
  obtain ⟨h1, h2, h3, h4, h5⟩ := hp
  refine EC_pick 2 ?_
  (refine nK E_ok call_83 Tryz.func83 Tryz.ntmps83 Tryz.results83 ?_)
  intro fr
  (refine dD E_ok [10, 12, 14] [false, false] [0, 1, 3, 4, 6, 7, 2, 9, 5, 8, 10, 11, 12, 13, 14] fol fun R hR => ?_; (repeat intro rh); (try refine sB ⟨?_⟩); (repeat ((with_reducible apply And.intro); exact sdB)); (repeat intro rh); (repeat ((with_reducible apply And.intro); exact sdB)); (try apply_assumption -exfalso))
  (refine EC.useM (ec_clone_u64M p.Children h1) (fun _ _ _ => by first | exact SLe.rptr | exact SLe.row) ?_; intro rh; (try simp only [hg]); refine dR E_ok [9, 5, 8, 10, 11, 12, 13, 14] ?_; (repeat intro rh); (try refine sB ⟨?_⟩); (repeat ((with_reducible apply And.intro); exact sdB)); (first | apply_assumption -exfalso | (try simp only [thenP])))
  (refine EC.use (ec_clone_PageRef p.Pages h4) ?_; (try simp only [hg]); refine dR E_ok [8, 10, 11, 12, 13, 14] ?_; (repeat intro rh); (try refine sB ⟨?_⟩); (repeat ((with_reducible apply And.intro); exact sdB)); (first | apply_assumption -exfalso | (try simp only [thenP])))
  (refine EC.use (ec_clone_Slot p.Table h5) ?_; (try simp only [hg]); refine dR E_ok [10, 11, 12, 13, 14] ?_; (repeat intro rh); (try refine sB ⟨?_⟩); (repeat ((with_reducible apply And.intro); exact sdB)); (first | apply_assumption -exfalso | (try simp only [thenP])))
  simp only [push_cast, simprocAttr]
  (refine EC.use (ec_clone_Program p.Program h2 h3) ?_; refine eK E_ok ?_)
  have e1 : putL (putL (putL (putL p.c 2 [SV.row 2 rh 1 0 p.Children.length]) 15 [SV.sl false 2 p.Pages.length (elt GPageRef.c default p.Pages)]) 16 [SV.sl false 4 p.Table.length (elt GSlot.c default p.Table)]) 3 p.Program.c = putL p.c 2 [SV.row 2 rh 1 0 p.Children.length] := by kernel_rfl
  have e2 : List.take 20 (putL p.c 2 [SV.row 2 rh 1 0 p.Children.length]) = putL p.c 2 [SV.row 2 rh 1 0 p.Children.length] := by kernel_rfl
  have e3 : putL (GProcess.c default) 0 (putL p.c 2 [SV.row 2 rh 1 0 p.Children.length]) = putL p.c 2 [SV.row 2 rh 1 0 p.Children.length] := by kernel_rfl
  have e4 : solids (putL p.c 2 [SV.row 2 rh 1 0 p.Children.length]) = true := by kernel_rfl
  have e5 : (putL p.c 2 [SV.row 2 rh 1 0 p.Children.length]).length = 20 := by kernel_rfl
  simp only [e1, e2, e3, e4, e5]
  exact ⟨⟨trivial, trivial⟩, _, chS_le p rh 2 0, rh, rfl, rfl⟩
theorem useAtD {P : Program} {f : Nat} {args args' : List SV} {B : List Own} (i : Nat) {h : RowH} {E e m : Nat} {xs xs' : List (List SV)} {Q : SV → List Own → Prop}
    (hc : EC P f args [.row h E e xs] fun r N => ∃ h', r = .row 0 h' e 0 m ∧ N = [.row h' E e xs']) (hi : getD' B i = .row h E e xs) (ha : LLe args' args) (hk : ∀ h', Q (.row i h' e 0 m) (B.set i (.row h' E e xs'))) : EC P f args' B Q :=
  EC.ret ((EC.at hc hi ha (by rintro r N ⟨h', _, rfl⟩; exact ⟨_, rfl⟩)).mono (by rintro r B' ⟨o, ⟨h', rfl, ho⟩, rfl⟩; cases ho; exact ⟨_, SLe.row, hk h'⟩))
theorem del_row {l : List Int} {i : Nat} (hi : i < l.length) : List.take i (List.map (intC .u64) l) ++ List.take (l.length - (i + 1)) (List.drop (i + 1) (List.map (intC .u64) l)) ++ List.drop (l.length - 1) (List.map (intC .u64) l) = (l.eraseIdx i ++ l.drop (l.length - 1)).map (intC .u64) := by
  have e : List.take (l.length - (i + 1)) (List.map (intC .u64) (l.drop (i + 1))) = List.map (intC .u64) (l.drop (i + 1)) := List.take_of_length_le (by simp)
  rw [List.eraseIdx_eq_take_drop_succ, ← List.map_drop, e]
  simp
theorem ec_delete (h : RowH) (l : List Int) (i : Nat) (hi : i < l.length) (hl : l.length ≤ 1000000) :
    EC Tryz.prog 29 [.row 0 h 1 0 l.length, .int .i64 i, .int .i64 ((i : Int) + 1)] [.row h 22 1 (l.map (intC .u64))] fun r N => ∃ h', r = .row 0 h' 1 0 (l.length - 1) ∧ N = [.row h' 22 1 ((l.eraseIdx i ++ [0]).map (intC .u64))] := by
  refine EC.ret ?_
  (refine nK E2_ok call_29 Tryz.func29 Tryz.ntmps29 Tryz.results29 ?_)
  refine ⟨by omega, fun e => absurd e (by simp; omega), fun _ => ?_⟩
  (refine dD E2_ok [] [true] [0, 1, 2, 3, 4, 5, 6, 7] fol fun R hR => ?_; (repeat intro rh); (try refine sB ⟨?_⟩); (repeat ((with_reducible apply And.intro); exact sdB)); (repeat intro rh); (repeat ((with_reducible apply And.intro); exact sdB)); (try apply_assumption -exfalso))
  have e0 : ((i : Int) + 1).toNat = i + 1 := by omega
  have e1 : (List.take (l.length - (i + 1)) (List.drop (i + 1) (List.map (intC .u64) l))).length = l.length - (i + 1) := by simp
  have e2 : i + (l.length - (i + 1)) = l.length - 1 := by omega
  have e3 : (l.eraseIdx i).length = l.length - 1 := by rw [List.length_eraseIdx, if_pos hi]
  simp only [e0, e1, e2, del_row hi]
  refine ⟨⟨by omega, ⟨by omega, fun x hx => ?_⟩, by omega⟩, hR _ _ ?_⟩
  · obtain ⟨y, _, rfl⟩ := List.mem_map.1 hx
    rfl
  clear hR R
  have e4 : ((l.length - 1 : Nat) : Int).toNat = l.length - 1 := by omega
  simp only [e0, e1, e2, e4, push_cast, simprocAttr]
  have e5 : l.length - (l.length - 1) = 1 := by omega
  have e6 : l.length - 1 + 1 = l.length := by omega
  refine ⟨⟨by omega, by omega, by omega, .inr (by omega)⟩, by omega, _, SLe.refl _, _, rfl, ?_⟩
  rw [e5, e6, ← List.map_take, List.take_left' e3, List.drop_of_length_le (by simp [e3])]
  simp [intC]
end Go.Proofs.YtfmldmafigpblaaGreatDoor
end
section
namespace Go.Proofs.YtfmldmafigpblaaGreatDoor
open Go.Lift
set_option linter.unusedSimpArgs false
set_option linter.unusedVariables false
set_option maxRecDepth 10000
def coS (o : GObject) (h : RowH) (i : Nat) : SV := .agg (putL o.c 5 [.row i h 1 0 o.Process.Children.length])
theorem coS_le (o : GObject) (h : RowH) (i j : Nat) : SLe (coS o h i) (coS o h j) := SLe.agg (LLe.put (LLe.refl _) 5 SLe.row rfl)
set_option maxHeartbeats 1000000 in
theorem ec_clone_ObjectM (o : GObject) (ho : smallO o) (hn : o.Names = []) : EC Tryz.prog 56 [.agg o.c] [] fun r N => ∃ h, r = coS o h 0 ∧ N = [.row h 22 1 (o.Process.Children.map (intC .u64))] := by
  obtain ⟨hp, h1, h2, h3, h4, h5, h6, h7⟩ := ho
  refine EC_pick 2 ?_
  (refine nK E_ok call_56 Tryz.func56 Tryz.ntmps56 Tryz.results56 ?_)
  intro fr
  refine EC.useM (ec_clone_ProcessM _ hp) (fun h i j => chS_le _ h i j) ?_
  intro rh
  have e1 : putL o.c 3 (putL o.Process.c 2 [SV.row 2 rh 1 0 o.Process.Children.length]) = putL o.c 5 [SV.row 2 rh 1 0 o.Process.Children.length] := by kernel_rfl
  simp only [chS, push_cast, simprocAttr]
  (repeat refine eK E_ok ?_)
  rw [e1]
  clear e1
  (refine dD E_ok [10, 12, 14] [false, false, false] [0, 1, 3, 4, 6, 7, 2, 9, 5, 8, 10, 11, 12, 13, 14] fol fun R hR => ?_; (repeat intro rh); (try refine sB ⟨?_⟩); (repeat ((with_reducible apply And.intro); exact sdB)); (repeat intro rh); (repeat ((with_reducible apply And.intro); exact sdB)); (try apply_assumption -exfalso))
  (refine EC.use (ec_clone_i64 _ h1) ?_; (try simp only [hg]); refine dR E_ok [9, 5, 8, 10, 11, 12, 13, 14] ?_; (repeat intro rh); (try refine sB ⟨?_⟩); (repeat ((with_reducible apply And.intro); exact sdB)); (first | apply_assumption -exfalso | (try simp only [thenP])))
  (refine EC.use (ec_clone_u8 _ h2) ?_; (try simp only [hg]); refine dR E_ok [8, 10, 11, 12, 13, 14] ?_; (repeat intro rh); (try refine sB ⟨?_⟩); (repeat ((with_reducible apply And.intro); exact sdB)); (first | apply_assumption -exfalso | (try simp only [thenP])))
  (refine EC.use (ec_clone_u64 _ h3) ?_; (try simp only [hg]); refine dR E_ok [10, 11, 12, 13, 14] ?_; (repeat intro rh); (try refine sB ⟨?_⟩); (repeat ((with_reducible apply And.intro); exact sdB)); (first | apply_assumption -exfalso | (try simp only [thenP])))
  clear hR R
  have d1 : putL (putL (putL (putL o.c 5 [SV.row 2 rh 1 0 o.Process.Children.length]) 23 [SV.sl false 1 o.Words.length (elt (intC .i64) default o.Words)]) 24 [SV.sl false 1 o.Data.length (elt (intC .u8) default o.Data)]) 29 [SV.sl false 1 o.Backlog.length (elt (intC .u64) default o.Backlog)] = putL o.c 5 [SV.row 2 rh 1 0 o.Process.Children.length] := by kernel_rfl
  have d2 : List.take 2 (List.drop 30 (putL o.c 5 [SV.row 2 rh 1 0 o.Process.Children.length])) = A2Lu8.c o.Queues := by kernel_rfl
  have d3 : putL (putL o.c 5 [SV.row 2 rh 1 0 o.Process.Children.length]) 30 [SV.sl false 1 o.Queues.x0.length (elt (intC .u8) default o.Queues.x0)] = putL o.c 5 [SV.row 2 rh 1 0 o.Process.Children.length] := by kernel_rfl
  have d4 : putL (putL o.c 5 [SV.row 2 rh 1 0 o.Process.Children.length]) 31 [SV.sl false 1 o.Queues.x1.length (elt (intC .u8) default o.Queues.x1)] = putL o.c 5 [SV.row 2 rh 1 0 o.Process.Children.length] := by kernel_rfl
  have d5 : putL (putL o.c 5 [SV.row 2 rh 1 0 o.Process.Children.length]) 35 [SV.sl false 3 o.Names.length (elt GName.c default o.Names)] = putL o.c 5 [SV.row 2 rh 1 0 o.Process.Children.length] := by kernel_rfl
  rw [hn] at d5
  simp only [List.length_nil] at d5
  have d6 : solids (putL o.c 5 [SV.row 2 rh 1 0 o.Process.Children.length]) = true := by kernel_rfl
  simp only [d1, d2, push_cast, simprocAttr]
  refine EV_loopK E_ok [24, 1, 2] (fun i : Nat => [(25, .int .i64 i)]) (fun B _ => B) (fun i => i ≤ 2) (fun i => 2 - i) 0 (Nat.zero_le _) ?_
  intro i hi
  rcases (show i = 0 ∨ i = 1 ∨ i = 2 by omega) with rfl | rfl | rfl
  · simp only [push_cast, simprocAttr]
    (refine EC.use (ec_clone_u8 _ h4) ?_; refine EOK_run (m := 0) E_ok ?_; simp only [d3, push_cast, simprocAttr])
    exact NX_mk 1 (by decide)
  · simp only [push_cast, simprocAttr]
    (refine EC.use (ec_clone_u8 _ h5) ?_; refine EOK_run (m := 0) E_ok ?_; simp only [d4, push_cast, simprocAttr])
    exact NX_mk 2 (by decide)
  simp only [push_cast, simprocAttr]
  refine EC.useK E_ok (ec_clone_NameF _ h6) ?_
  simp only [d5, d6, hn, push_cast, simprocAttr]
  refine EV_loopK E_ok [1, 2, 40, 41] (fun i : Nat => [(42, .int .i64 i)]) (fun B _ => B) (fun i => i = 0) (fun i => 0) 0 rfl ?_
  rintro i rfl
  simp only [d6, push_cast, simprocAttr]
  exact ⟨_, coS_le o rh 2 0, rh, rfl, rfl⟩
theorem ec_copiedM (o : GObject) (ho : smallO o) (hn : o.Names = []) : EC Tryz.prog 28 [.agg o.c] [] fun r N => ∃ h, r = coS o h 0 ∧ N = [.row h 22 1 (o.Process.Children.map (intC .u64))] := by
  refine EC_pick 2 ?_
  (refine nK E_ok call_28 Tryz.func28 Tryz.ntmps28 Tryz.results28 ?_)
  intro fr
  refine EC.useM (ec_clone_ObjectM _ ho hn) (fun h i j => coS_le _ h i j) ?_
  intro rh
  simp only [coS, push_cast, simprocAttr]
  (repeat refine eK E_ok ?_)
  exact ⟨_, coS_le o rh 2 0, rh, rfl, rfl⟩
theorem ec_fail (e : Int) : EC Tryz.prog 38 [.int .i64 e] [] fun r N => N = [] ∧ r = .tup [.agg (GObject.c default), .agg (GObject.c default), .int .i64 e] := by
  refine EC.finK ?_
  (refine nK E_ok call_38 Tryz.func38 Tryz.ntmps38 Tryz.results38 ?_)
  (repeat' (first | refine eK E_ok ?_ | refine zL ?_ | apply Lt.t2 | apply Lt.t3 | apply Lt.t4 | apply Lt.aggE | apply FzA.aggE | (with_reducible intro _) | with_reducible apply And.intro | exact trivial)) <;> (first | exact zA | exact ([] : List Own) | skip)
def endO (o : GObject) (status : Int) : GObject × Bool × Int :=
  if (!prB o) = true then (default, false, 1) else if (o.Process.State == 3) = true then (default, false, 8) else if (o.Process.Parent == 0) = true then (default, true, 0)
  else ({ (default : GObject) with ID := o.ID, Kind := 1, Process := { (default : GProcess) with State := 3, Parent := o.Process.Parent, Status := status } }, false, 0)
def r3e (x : GObject × Bool × Int) : SV := .tup [.agg x.1.c, .bool x.2.1, .int .i64 x.2.2]
attribute [push_cast] r3e
theorem ec_End (o : GObject) (st : Int) (ho : smallO o) : EC Tryz.prog 19 [.agg o.c, .int .i64 st] [] fun r N => N = [] ∧ r = r3e (endO o st) := by
  refine EC.finK ?_
  (refine nK E_ok call_19 Tryz.func19 Tryz.ntmps19 Tryz.results19 ?_)
  (repeat' (first | refine eK E_ok ?_ | refine EC.use (ec_pr_Valid o ho) ?_ | refine zL ?_ | apply Lt.t2 | apply Lt.t3 | apply Lt.t4 | apply Lt.aggE | apply FzA.aggE | (with_reducible intro _) | with_reducible apply And.intro | exact trivial)) <;> (first | exact zA | exact ([] : List Own) | (simp [endO, *]; done) | (simp_all [endO]; done) | skip)
theorem prB_only {o : GObject} (h : prB o = true) : o.Kind = 1 ∧ o.ID ≠ 0 ∧ onlyB o 2 = true ∧ famB o = true := by
  unfold prB at h
  split at h
  · cases h
  · rename_i g
    simpa [not_or, and_assoc] using g
theorem okB_no {m : Int} {b : Bool} (h : okB 2 m b = true) (hm : (bitI .andNot .i64 m 2 == 0) = false) : b = false := by
  cases b <;> simp_all [okB]
theorem prB_names {o : GObject} (h : prB o = true) : o.Names = [] := by
  have h1 := (prB_only h).2.2.1
  simp only [onlyB, Bool.and_eq_true] at h1
  have := okB_no h1.2 (by kernel_rfl)
  simpa using this
def forkO (o : GObject) (id : Int) (pages : List Int) : GObject × GObject × Int :=
  if (!prB o) = true then (default, default, 1) else if (o.Process.State != 1) = true then (default, default, 8) else if ((o.Process.Children.length : Int) == 32) = true then (default, default, 3)
  else if (id == 0 || id == o.ID || decide (id ∈ o.Process.Children)) = true then (default, default, 1)
  else if ((spRepl o.Process.Pages pages).2 != 0) = true then (default, default, (spRepl o.Process.Pages pages).2)
  else if (!prB { childO o id with Process := { (childO o id).Process with Pages := (spRepl o.Process.Pages pages).1 } }) = true then (default, default, 1)
  else ({ o with Process := { o.Process with Children := o.Process.Children ++ [id] } }, { childO o id with Process := { (childO o id).Process with Pages := (spRepl o.Process.Pages pages).1 } }, 0)
def r3k (x : GObject × GObject × Int) : SV := .tup [.agg x.1.c, .agg x.2.1.c, .int .i64 x.2.2]
attribute [push_cast] r3k r2t
theorem ec_Fork (o : GObject) (id : Int) (pages : List Int) (ho : smallO o) (hp : pages.length ≤ 1000000) : EC Tryz.prog 17 [.agg o.c, .int .u64 id, slL 1 (intC .u64) default pages] [] fun r N => N = [] ∧ r = r3k (forkO o id pages) := by
  refine EC.finK ?_
  (refine nK E_ok call_17 Tryz.func17 Tryz.ntmps17 Tryz.results17 ?_)
  intro fr
  (refine EC.use (ec_pr_Valid o ho) ?_; refine eK E_ok ?_)
  refine ⟨fun h => ?_, fun h => ⟨fun h2 => ?_, fun h2 => ⟨fun h3 => ?_, fun h3 => ?_⟩⟩⟩
  · (repeat' (first | refine eK E_ok ?_ | refine EC.use (ec_fail 1) ?_ | refine zL ?_ | apply Lt.t2 | apply Lt.t3 | apply Lt.t4 | apply Lt.aggE | apply FzA.aggE | (with_reducible intro _) | with_reducible apply And.intro | exact trivial)) <;> (first | exact zA | exact ([] : List Own) | (simp [forkO, *]; done) | (simp_all [forkO]; done) | skip)
  · (repeat' (first | refine eK E_ok ?_ | refine EC.use (ec_fail 8) ?_ | refine zL ?_ | apply Lt.t2 | apply Lt.t3 | apply Lt.t4 | apply Lt.aggE | apply FzA.aggE | (with_reducible intro _) | with_reducible apply And.intro | exact trivial)) <;> (first | exact zA | exact ([] : List Own) | (simp [forkO, *]; done) | (simp_all [forkO]; done) | skip)
  · (repeat' (first | refine eK E_ok ?_ | refine EC.use (ec_fail 3) ?_ | refine zL ?_ | apply Lt.t2 | apply Lt.t3 | apply Lt.t4 | apply Lt.aggE | apply FzA.aggE | (with_reducible intro _) | with_reducible apply And.intro | exact trivial)) <;> (first | exact zA | exact ([] : List Own) | (simp [forkO, *]; done) | (simp_all [forkO]; done) | skip)
  cases g : (id == 0 || id == o.ID) with
  | true =>
    refine ⟨fun h => (nomatch h), fun _ => ?_⟩
    (repeat' (first | refine eK E_ok ?_ | refine EC.use (ec_fail 1) ?_ | refine zL ?_ | apply Lt.t2 | apply Lt.t3 | apply Lt.t4 | apply Lt.aggE | apply FzA.aggE | (with_reducible intro _) | with_reducible apply And.intro | exact trivial)) <;> (first | exact zA | exact ([] : List Own) | (simp [forkO, *]; done) | (simp_all [forkO]; done) | skip)
  | false =>
  refine ⟨fun _ => ?_, fun h => (nomatch h)⟩
  (refine EC.use (ec_contains_u64 _ _ ho.1.1) ?_; refine eK E_ok ?_)
  refine ⟨fun h4 => ?_, fun h4 => ?_⟩
  · (repeat' (first | refine eK E_ok ?_ | refine EC.use (ec_fail 1) ?_ | refine zL ?_ | apply Lt.t2 | apply Lt.t3 | apply Lt.t4 | apply Lt.aggE | apply FzA.aggE | (with_reducible intro _) | with_reducible apply And.intro | exact trivial)) <;> (first | exact zA | exact ([] : List Own) | (simp [forkO, *]; done) | (simp_all [forkO]; done) | skip)
  (refine EC.use (ec_space_Replace _ _ ho.1.2.2.2.1 hp) ?_; refine eK E_ok ?_)
  refine ⟨fun h5 => ?_, fun h5 => ?_⟩
  · (repeat' (first | refine eK E_ok ?_ | refine EC.use (ec_fail _) ?_ | refine zL ?_ | apply Lt.t2 | apply Lt.t3 | apply Lt.t4 | apply Lt.aggE | apply FzA.aggE | (with_reducible intro _) | with_reducible apply And.intro | exact trivial)) <;> (first | exact zA | exact ([] : List Own) | (simp [forkO, *]; done) | (simp_all [forkO]; done) | skip)
  have hv : prB o = true := by simpa using h
  have hn := prB_names hv
  have hr : (spRepl o.Process.Pages pages).1.length ≤ 1000000 := by
    have := ho.1.2.2.2.1
    simp only [spRepl]
    split
    · simp
    · split
      · simp
      · split
        · simp
        · rw [replL_len]; exact this
  have hy : smallO { childO o id with Process := { (childO o id).Process with Pages := (spRepl o.Process.Pages pages).1 } } := by
    obtain ⟨⟨a1, a2, a3, a4, a5⟩, a6⟩ := ho
    exact ⟨⟨Nat.zero_le _, a2, a3, hr, a5⟩, a6⟩
  have hf : forkO o id pages = if (!prB { childO o id with Process := { (childO o id).Process with Pages := (spRepl o.Process.Pages pages).1 } }) = true then (default, default, 1)
      else ({ o with Process := { o.Process with Children := o.Process.Children ++ [id] } }, { childO o id with Process := { (childO o id).Process with Pages := (spRepl o.Process.Pages pages).1 } }, 0) := by
    simp only [forkO, h, h2, h3, g, h4, h5, Bool.false_eq_true, if_false, Bool.or_false]
  rw [hf]
  (refine EC.use (ec_child o id ho) ?_; refine eK E_ok ?_)
  generalize hY : ({ childO o id with Process := { (childO o id).Process with Pages := (spRepl o.Process.Pages pages).1 } } : GObject) = Y at *
  intro fr1
  (refine EC.use (ec_pr_Valid Y hy) ?_; refine eK E_ok ?_)
  refine ⟨fun h6 => ?_, fun h6 => ?_⟩
  · rw [h6]
    (repeat' (first | refine eK E_ok ?_ | refine EC.use (ec_fail 1) ?_ | refine zL ?_ | apply Lt.t2 | apply Lt.t3 | apply Lt.t4 | apply Lt.aggE | apply FzA.aggE | (with_reducible intro _) | with_reducible apply And.intro | exact trivial)) <;> (first | exact zA | exact ([] : List Own) | skip)
  rw [h6]
  refine EC.useM (ec_copiedM o ho hn) (fun h i j => coS_le _ h i j) ?_
  intro rh
  simp only [coS, push_cast, simprocAttr]
  (repeat refine eK E_ok ?_)
  refine fun fr2 fr3 => ⟨by have := ho.1.1; omega, ?_⟩
  have q1 : putL (GObject.c default) 0 (putL o.c 5 [SV.row 4 (fr3 5) 1 0 (o.Process.Children.length + 1)]) = putL o.c 5 [SV.row 4 (fr3 5) 1 0 (o.Process.Children.length + 1)] := putO (by rw [putL_length, GObject.len])
  (refine dD E_ok [] [false, true, true, false, false, false, false] [0, 1, 2, 3, 4] fol fun R hR => ?_; (repeat intro rh); (try refine sB ⟨?_⟩); (repeat ((with_reducible apply And.intro); exact sdB)); (repeat intro rh); (repeat ((with_reducible apply And.intro); exact sdB)); (try apply_assumption -exfalso))
  simp only [push_cast, simprocAttr]
  have h7 : prB Y = true := by simpa using h6
  simp only [h7, Bool.true_eq_false, if_false, push_cast, simprocAttr]
  exact Lt.t3 (FzA.agg (FzL.put (FzL.O o) 5 (FzC.row rfl rfl (by simp)) rfl)) (FzA.aggO rfl) FzA.int
theorem idxI_lt (x : Int) (l : List Int) : ∀ i : Nat, 0 ≤ idxI x i l → idxI x i l < i + l.length := by
  induction l with
  | nil => intro i h; simp [idxI] at h
  | cons y t ih =>
    intro i h
    simp only [idxI, List.length_cons] at h ⊢
    split
    · omega
    · rename_i hne
      rw [if_neg hne] at h
      have := ih (i + 1) h
      push_cast at this ⊢
      omega
def reapO (o c : GObject) : GObject × Int × Int :=
  if (!prB o || !prB c) = true then (default, 0, 1) else if (decide (idxI c.ID 0 o.Process.Children < 0) || c.Process.Parent != o.ID) = true then (default, 0, 14)
  else if (c.Process.State != 3) = true then (default, 0, 12)
  else ({ o with Process := { o.Process with Children := o.Process.Children.eraseIdx (idxI c.ID 0 o.Process.Children).toNat } }, c.Process.Status, 0)
def r3r (x : GObject × Int × Int) : SV := .tup [.agg x.1.c, .int .i64 x.2.1, .int .i64 x.2.2]
attribute [push_cast] r3r
theorem ec_Reap (o c : GObject) (ho : smallO o) (hc : smallO c) : EC Tryz.prog 9 [.agg o.c, .agg c.c] [] fun r N => N = [] ∧ r = r3r (reapO o c) := by
  refine EC.finK ?_
  (refine nK E_ok call_9 Tryz.func9 Tryz.ntmps9 Tryz.results9 ?_)
  intro fr
  (refine EC.use (ec_index_u64 _ _ ho.1.1) ?_; refine eK E_ok ?_)
  (repeat' (first | refine eK E_ok ?_ | refine EC.use (ec_pr_Valid o ho) ?_ | refine EC.use (ec_pr_Valid c hc) ?_ | refine zL ?_ | apply Lt.t2 | apply Lt.t3 | apply Lt.t4 | apply Lt.aggE | apply FzA.aggE | (with_reducible intro _) | with_reducible apply And.intro | exact trivial)) <;> (first | exact zA | exact ([] : List Own) | (simp [reapO, *]; done) | (simp_all [reapO]; done) | skip)
  all_goals try (simp only [reapO]; (repeat' split) <;> first | rfl | (simp_all; done) | (simp_all; omega))
  rename_i p1 p2 p3 p4
  have hn := prB_names p1
  have hx : 0 ≤ idxI c.ID 0 o.Process.Children := by simp at p3; omega
  obtain ⟨k, hk⟩ := Int.eq_ofNat_of_zero_le hx
  have hkl : k < o.Process.Children.length := by
    have := idxI_lt c.ID o.Process.Children 0
    omega
  have hw : IntKind.i64.wrap ((k : Int) + 1) = (k : Int) + 1 := i64_in' (by have := ho.1.1; omega)
  have hr : reapO o c = ({ o with Process := { o.Process with Children := o.Process.Children.eraseIdx k } }, c.Process.Status, 0) := by
    unfold reapO
    rw [if_neg (by rw [p2]; simp), if_neg (by rw [p3]; simp), if_neg (by rw [p4]; simp), hk]
    rfl
  refine EC.useM (ec_copiedM o ho hn) (fun h i j => coS_le _ h i j) ?_
  intro rh
  rw [hr]
  simp only [coS, hk, hw, push_cast, simprocAttr]
  (repeat (refine EOK_run (m := 0) E_ok ?_; simp only [hw, push_cast, simprocAttr]))
  intro fr2
  refine useAtD 3 (ec_delete rh _ k hkl ho.1.1) rfl (by repeat (first | exact LLe.nil | refine LLe.cons (by first | exact SLe.refl _ | exact SLe.row) ?_)) ?_
  intro rd
  (repeat refine eK E_ok ?_)
  have q1 : putL (GObject.c default) 0 (putL o.c 5 [SV.row 3 rd 1 0 (o.Process.Children.length - 1)]) = putL o.c 5 [SV.row 3 rd 1 0 (o.Process.Children.length - 1)] := putO (by rw [putL_length, GObject.len])
  (refine dD E_ok [] [false, false, true, false, false] [0, 1, 2, 3, 4, 5, 6] fol fun R hR => ?_; (repeat intro rh); (try refine sB ⟨?_⟩); (repeat ((with_reducible apply And.intro); exact sdB)); (repeat intro rh); (repeat ((with_reducible apply And.intro); exact sdB)); (try apply_assumption -exfalso))
  simp only [push_cast, simprocAttr]
  have e3 : (o.Process.Children.eraseIdx k).length = o.Process.Children.length - 1 := by rw [List.length_eraseIdx, if_pos hkl]
  exact Lt.t3 (FzA.agg (FzL.put (FzL.O o) 5 (FzC.part rfl rfl e3.symm (by rw [List.drop_zero, List.take_left' e3]) (by simp [e3])) rfl)) FzA.int FzA.int
def newO0 (id : Int) (p : GProgram) : GObject × Int :=
  if (id == 0 || chkE p != 0) = true then (default, 1) else if ((0 : Int) != p.Pages) = true then (default, 2)
  else if (!prB { (default : GObject) with ID := id, Kind := 1, Process := { (default : GProcess) with State := 1, Program := p } }) = true then (default, 1)
  else ({ (default : GObject) with ID := id, Kind := 1, Process := { (default : GProcess) with State := 1, Program := p } }, 0)
def r2k (x : GObject × Int) : SV := .tup [.agg x.1.c, .int .i64 x.2]
attribute [push_cast] r2k
theorem ec_New0 (id : Int) (p : GProgram) (h1 : p.Code.length ≤ 1000000) (h2 : p.Strings.length ≤ 1000000) : EC Tryz.prog 13 [.int .u64 id, .agg p.c, .sl true 0 0 fun _ => []] [] fun r N => N = [] ∧ r = r2k (newO0 id p) := by
  refine EC.finK ?_
  (refine nK E_ok call_13 Tryz.func13 Tryz.ntmps13 Tryz.results13 ?_)
  intro fr
  (refine EC.useP (ec_Check _ h1 h2) ?_; rintro x -; refine eK E_ok ?_)
  have hp : smallO { (default : GObject) with ID := id, Kind := 1, Process := { (default : GProcess) with State := 1, Program := p } } := ⟨⟨Nat.zero_le _, h1, h2, Nat.zero_le _, Nat.zero_le _⟩, Nat.zero_le _, Nat.zero_le _, Nat.zero_le _, Nat.zero_le _, Nat.zero_le _, Nat.zero_le _, by intro n hn; cases hn⟩
  refine ⟨fun g => ?_, fun g => ⟨fun g2 => ?_, fun g2 => ?_⟩⟩
  · (repeat' (first | refine eK E_ok ?_ | refine zL ?_ | apply Lt.t2 | apply Lt.t3 | apply Lt.t4 | apply Lt.aggE | apply FzA.aggE | (with_reducible intro _) | with_reducible apply And.intro | exact trivial)) <;> (first | exact zA | exact ([] : List Own) | (simp [newO0, *]; done) | (simp_all [newO0]; done) | skip)
  · have hr : newO0 id p = (default, 2) := by unfold newO0; rw [if_neg (by rw [g]; simp), if_pos g2]
    rw [hr]
    (repeat' (first | refine eK E_ok ?_ | refine zL ?_ | apply Lt.t2 | apply Lt.t3 | apply Lt.t4 | apply Lt.aggE | apply FzA.aggE | (with_reducible intro _) | with_reducible apply And.intro | exact trivial)) <;> (first | exact zA | exact ([] : List Own) | skip)
  have hr : newO0 id p = if (!prB { (default : GObject) with ID := id, Kind := 1, Process := { (default : GProcess) with State := 1, Program := p } }) = true then (default, 1)
      else ({ (default : GObject) with ID := id, Kind := 1, Process := { (default : GProcess) with State := 1, Program := p } }, 0) := by unfold newO0; rw [if_neg (by rw [g]; simp), if_neg (by rw [g2]; simp)]
  rw [hr]
  generalize hY : ({ (default : GObject) with ID := id, Kind := 1, Process := { (default : GProcess) with State := 1, Program := p } } : GObject) = Y at *
  (refine EC.use (ec_clone_Program p h1 h2) ?_; refine eK E_ok ?_)
  intro fr1
  dsimp only at hY
  rw [hY]
  refine EV_loopK E_ok [6, 10, 36, 37] (fun i : Nat => [(38, .int .i64 i)]) (fun B _ => B) (fun i => i = 0) (fun _ => 1) 0 rfl ?_
  rintro i rfl
  simp only [push_cast, simprocAttr]
  (refine EC.use (ec_pr_Valid Y hp) ?_; refine eK E_ok ?_)
  refine ⟨fun g3 => ?_, fun g3 => ?_⟩
  · (repeat' (first | refine eK E_ok ?_ | refine zL ?_ | apply Lt.t2 | apply Lt.t3 | apply Lt.t4 | apply Lt.aggE | apply FzA.aggE | (with_reducible intro _) | with_reducible apply And.intro | exact trivial)) <;> (first | exact zA | exact ([] : List Own) | skip)
  · have g4 : prB Y = true := by simpa using g3
    (repeat' (first | refine eK E_ok ?_ | refine zL ?_ | apply Lt.t2 | apply Lt.t3 | apply Lt.t4 | apply Lt.aggE | apply FzA.aggE | (with_reducible intro _) | with_reducible apply And.intro | exact trivial)) <;> (first | exact zA | exact ([] : List Own) | skip)
end Go.Proofs.YtfmldmafigpblaaGreatDoor
end
section
namespace Go.Proofs.YtfmldmafigpblaaGreatDoor
open Go.Lift
set_option linter.unusedSimpArgs false
set_option linter.unusedVariables false
set_option maxRecDepth 10000
def pageOk (o : GObject) : Bool := o.Kind == 2 && !(o.ID == 0) && ((o.Words.length : Int) == 16) && onlyB o 4
theorem page_bare (o : GObject) : onlyB o 4 = bareB { o with Words := [] } := by
  have h1 : bitI .andNot .i64 1 4 = 1 := by decide
  have h2 : bitI .andNot .i64 2 4 = 2 := by decide
  have h3 : bitI .andNot .i64 4 4 = 0 := by decide
  have h4 : bitI .andNot .i64 8 4 = 8 := by decide
  have h5 : bitI .andNot .i64 16 4 = 16 := by decide
  have h6 : bitI .andNot .i64 32 4 = 32 := by decide
  have h7 : bitI .andNot .i64 64 4 = 64 := by decide
  have h8 : bitI .andNot .i64 128 4 = 128 := by decide
  have h9 : bitI .andNot .i64 256 4 = 256 := by decide
  have h10 : bitI .andNot .i64 512 4 = 512 := by decide
  have h11 : bitI .andNot .i64 1024 4 = 1024 := by decide
  have h12 : bitI .andNot .i64 2048 4 = 2048 := by decide
  have h13 : bitI .andNot .i64 4096 4 = 4096 := by decide
  apply Bool.eq_iff_iff.2
  simp [onlyB, okB, bareB, h1, h2, h3, h4, h5, h6, h7, h8, h9, h10, h11, h12, h13]
  constructor <;> (intro h; simp [h])
theorem ec_ref06_Valid (o : GObject) (ho : smallO o) : EC Tryz.prog 156 [.agg o.c] [] fun r B => B = [] ∧ r = .bool (pageOk o) := by
  refine EC.fin (nA E_ok call_156 Tryz.func156 Tryz.ntmps156 Tryz.results156 ?_)
  (repeat (first | refine stepA ?_ | refine regA E_ok fun fr => ⟨?_⟩))
  (try refine regA E_ok fun fr => ⟨?_⟩)
  refine ⟨fun hg => ?_, fun hg => ?_⟩
  · (refine EC.uses (ec_ref06_Bare { o with Words := [] }) (.cons (SLe.agg (by (repeat (first | exact LLe.refl _ | apply cL_u8_c0 | apply GObject.l5 | apply GObject.l6 | apply GObject.l7 | apply GObject.l18 | apply GObject.l19 | apply GObject.l23 | apply GObject.l24 | apply GObject.l29 | apply GObject.l30 | apply GObject.l31 | apply GObject.l35 | exact SLe.refl _ | exact sle_nilL)))) .nil) ?_; (try simp only [hg]); refine gA E_ok fun fr => ⟨?_⟩)
    (repeat (first | refine stepA ?_ | refine regA E_ok fun fr => ⟨?_⟩))
    ((try refine sC ?_); refine sF ?_; refine SLe.of_eq ?_; (simp only [pageOk, ← bne_eq, hg, page_bare]; (try rfl)))
  · ((try simp only [hg]); refine gA E_ok fun fr => ⟨?_⟩)
    (repeat (first | refine stepA ?_ | refine regA E_ok fun fr => ⟨?_⟩))
    ((try refine sC ?_); refine sF ?_; refine SLe.of_eq ?_; (simp only [pageOk, ← bne_eq, hg]; (try rfl)))
def pageGet (o : GObject) (w : Int) : Int × Int := if !pageOk o then (0, 1) else if decide (w < 0) || decide (16 ≤ w) then (0, 2) else (o.Words.getD w.toNat default, 0)
def r2i (x : Int × Int) : SV := .tup [.int .i64 x.1, .int .i64 x.2]
theorem pageOk_len {o : GObject} (h : pageOk o = true) : o.Words.length = 16 := by
  simp [pageOk] at h; omega
theorem ec_ref06_Get (o : GObject) (w : Int) (ho : smallO o) : EC Tryz.prog 137 [.agg o.c, .int .i64 w] [] fun r B => B = [] ∧ r = r2i (pageGet o w) := by
  refine EC.fin (nA E_ok call_137 Tryz.func137 Tryz.ntmps137 Tryz.results137 ?_)
  (repeat (first | refine stepA ?_ | refine regA E_ok fun fr => ⟨?_⟩))
  (try refine regA E_ok fun fr => ⟨?_⟩)
  (refine EC.use (ec_ref06_Valid o ho) ?_; (try simp only [hg]); refine gA E_ok fun fr => ⟨?_⟩)
  (repeat (first | refine stepA ?_ | refine regA E_ok fun fr => ⟨?_⟩))
  (apply EV_cond; exact rfl; all_goals intro h)
  · (repeat (first | refine stepA ?_ | refine regA E_ok fun fr => ⟨?_⟩))
    ((try refine sC ?_); refine sF ?_; refine SLe.of_eq ?_; (simp only [pageGet, h, if_true, r2i]))
  have h0 := h
  clear h
  have hl := pageOk_len (o := o) (by simpa using h0)
  (repeat (first | refine stepA ?_ | refine regA E_ok fun fr => ⟨?_⟩))
  (apply EV_cond; exact rfl; all_goals intro h)
  · (repeat (first | refine stepA ?_ | refine regA E_ok fun fr => ⟨?_⟩))
    ((try refine sC ?_); refine sF ?_; refine SLe.of_eq ?_; (simp only [pageGet, h0, h, if_true, if_false, Bool.false_eq_true, r2i]))
  · have h1 : 0 ≤ w ∧ w < 16 := by simp at h; omega
    (repeat (first | refine stepA ?_ | refine regA E_ok fun fr => ⟨?_⟩))
    ((try refine sC ?_); refine sF ?_; refine SLe.of_eq ?_; (simp only [pageGet, h0, h, if_true, if_false, Bool.false_eq_true, r2i]))
end Go.Proofs.YtfmldmafigpblaaGreatDoor
end
section
namespace Go.Proofs.YtfmldmafigpblaaGreatDoor
open Go.Lift
set_option linter.unusedSimpArgs false
set_option linter.unusedVariables false
set_option maxRecDepth 10000
theorem ec_ref06_NewP (id : Int) : EC Tryz.prog 114 [.int .u64 id] [] fun r N => N = [] ∧ r = .agg (GObject.c { (default : GObject) with ID := id, Kind := 2, Words := List.replicate 16 0 }) := by
  refine EC.fin (nA E_ok call_114 Tryz.func114 Tryz.ntmps114 Tryz.results114 ?_)
  (repeat (first | refine stepA ?_ | refine regA E_ok fun fr => ⟨?_⟩))
  (try refine sC ?_)
  refine ⟨frzKL_put _ _ _ _ _ (by rw [GObject.fk]; trivial) ⟨⟨rfl, rfl, by simp⟩, trivial⟩, ?_⟩
  simp only [frzT, frzA, frzL_put]
  refine sF ?_
  exact SLe.agg (LLe.put (LLe.refl _) 23 (show SLe _ (slL 1 (intC .i64) default (List.replicate 16 0)) from sle_row2 (xs := (List.replicate 16 0).map (intC .i64)) rfl rfl) (GObject.p23 _ _))
def pageSet (o : GObject) (w v : Int) : GObject × Int := if ((pageGet o w).2 != 0) = true then (default, (pageGet o w).2) else ({ o with Words := o.Words.set w.toNat v }, 0)
def pageCopy (o : GObject) (id : Int) : GObject × Int := if (!pageOk o || id == 0) = true then (default, 1) else ({ o with ID := id }, 0)
def r2o (x : GObject × Int) : SV := .tup [.agg x.1.c, .int .i64 x.2]
theorem pageGet_ok {o : GObject} {w : Int} (h : ((pageGet o w).2 != 0) = false) : pageOk o = true ∧ 0 ≤ w ∧ w < 16 := by
  unfold pageGet at h
  split at h
  · simp at h
  · split at h
    · simp at h
    · rename_i h1 h2
      simp at h1 h2
      exact ⟨h1, by omega, by omega⟩
theorem ec_ref06_Set (o : GObject) (w v : Int) (ho : smallO o) : EC Tryz.prog 138 [.agg o.c, .int .i64 w, .int .i64 v] [] fun r B => B = [] ∧ r = r2o (pageSet o w v) := by
  refine EC.fin (nA E_ok call_138 Tryz.func138 Tryz.ntmps138 Tryz.results138 ?_)
  have c := ec_ref06_Get o w ho
  simp only [r2i] at c
  (repeat (first | refine stepA ?_ | refine regA E_ok fun fr => ⟨?_⟩))
  (try refine regA E_ok fun fr => ⟨?_⟩)
  (refine EC.use (c) ?_; (try simp only [hg]); refine gA E_ok fun fr => ⟨?_⟩)
  (repeat (first | refine stepA ?_ | refine regA E_ok fun fr => ⟨?_⟩))
  (apply EV_cond; exact rfl; all_goals intro h)
  · (repeat (first | refine stepA ?_ | refine regA E_ok fun fr => ⟨?_⟩))
    ((try refine sC ?_); refine sF ?_; refine SLe.of_eq ?_; (simp only [pageSet, h, if_true, r2o]))
  obtain ⟨h1, h2, h3⟩ := pageGet_ok h
  have hl := pageOk_len h1
  (repeat (first | refine stepA ?_ | refine regA E_ok fun fr => ⟨?_⟩))
  (try refine sC ?_)
  rw [show r2o (pageSet o w v) = .tup [.agg (GObject.c { o with Words := o.Words.set w.toNat v }), .int .i64 0] by
    simp only [pageSet, h, Bool.false_eq_true, if_false, r2o]]
  exact fin_t2 (.agg ((FzL.O _).put 23 (FzC.row (cells := intC .i64) (d := default) rfl (by simp) (by simp)) (GObject.p23 _ _))) .int
theorem ec_ref06_Copy (o : GObject) (id : Int) (ho : smallO o) : EC Tryz.prog 158 [.agg o.c, .int .u64 id] [] fun r B => B = [] ∧ r = r2o (pageCopy o id) := by
  refine EC.fin (nA E_ok call_158 Tryz.func158 Tryz.ntmps158 Tryz.results158 ?_)
  (repeat (first | refine stepA ?_ | refine regA E_ok fun fr => ⟨?_⟩))
  (try refine regA E_ok fun fr => ⟨?_⟩)
  (refine EC.use (ec_ref06_Valid o ho) ?_; (try simp only [hg]); refine gA E_ok fun fr => ⟨?_⟩)
  (repeat (first | refine stepA ?_ | refine regA E_ok fun fr => ⟨?_⟩))
  (apply EV_cond; exact rfl; all_goals intro h)
  · (repeat (first | refine stepA ?_ | refine regA E_ok fun fr => ⟨?_⟩))
    ((try refine sC ?_); refine sF ?_; refine SLe.of_eq ?_; (simp only [pageCopy, h, if_true, r2o]))
  have hl := pageOk_len (o := o) (by simp at h; exact h.1)
  (repeat (first | refine stepA ?_ | refine regA E_ok fun fr => ⟨?_⟩))
  (try refine sC ?_)
  rw [show r2o (pageCopy o id) = .tup [.agg (GObject.c { o with ID := id }), .int .i64 0] by
    simp only [pageCopy, h, Bool.false_eq_true, if_false, r2o]]
  exact fin_t2 (.agg ((FzL.O _).put 23 (FzC.row (cells := intC .i64) (d := default) rfl rfl rfl) (GObject.p23 _ _))) .int
end Go.Proofs.YtfmldmafigpblaaGreatDoor
end
section
namespace Go.Proofs.YtfmldmafigpblaaGreatDoor
open Go.Lift
set_option linter.unusedSimpArgs false
set_option linter.unusedVariables false
set_option maxRecDepth 10000
def fileOk (o : GObject) : Bool := o.Kind == 3 && !(o.ID == 0) && decide ((o.Data.length : Int) ≤ 4096) && onlyB o 8
theorem file_bare (o : GObject) : onlyB o 8 = bareB { o with Data := [] } := by
  have h1 : bitI .andNot .i64 1 8 = 1 := by decide
  have h2 : bitI .andNot .i64 2 8 = 2 := by decide
  have h3 : bitI .andNot .i64 4 8 = 4 := by decide
  have h4 : bitI .andNot .i64 8 8 = 0 := by decide
  have h5 : bitI .andNot .i64 16 8 = 16 := by decide
  have h6 : bitI .andNot .i64 32 8 = 32 := by decide
  have h7 : bitI .andNot .i64 64 8 = 64 := by decide
  have h8 : bitI .andNot .i64 128 8 = 128 := by decide
  have h9 : bitI .andNot .i64 256 8 = 256 := by decide
  have h10 : bitI .andNot .i64 512 8 = 512 := by decide
  have h11 : bitI .andNot .i64 1024 8 = 1024 := by decide
  have h12 : bitI .andNot .i64 2048 8 = 2048 := by decide
  have h13 : bitI .andNot .i64 4096 8 = 4096 := by decide
  apply Bool.eq_iff_iff.2
  simp [onlyB, okB, bareB, h1, h2, h3, h4, h5, h6, h7, h8, h9, h10, h11, h12, h13]
  constructor <;> (intro h; simp [h])
theorem ec_ref08_Valid (o : GObject) (ho : smallO o) : EC Tryz.prog 195 [.agg o.c] [] fun r B => B = [] ∧ r = .bool (fileOk o) := by
  refine EC.fin (nA E_ok call_195 Tryz.func195 Tryz.ntmps195 Tryz.results195 ?_)
  (repeat (first | refine stepA ?_ | refine regA E_ok fun fr => ⟨?_⟩))
  (try refine regA E_ok fun fr => ⟨?_⟩)
  refine ⟨fun hg => ?_, fun hg => ?_⟩
  · (refine EC.uses (ec_ref06_Bare { o with Data := [] }) (.cons (SLe.agg (LLe.put (LLe.refl _) 24 sle_nilL (GObject.p24 _ _))) .nil) ?_; (try simp only [hg]); refine gA E_ok fun fr => ⟨?_⟩)
    (repeat (first | refine stepA ?_ | refine regA E_ok fun fr => ⟨?_⟩))
    ((try refine sC ?_); refine sF ?_; refine SLe.of_eq ?_; (simp only [fileOk, ← bne_eq, hg, file_bare]; (try rfl)))
  · ((try simp only [hg]); refine gA E_ok fun fr => ⟨?_⟩)
    (repeat (first | refine stepA ?_ | refine regA E_ok fun fr => ⟨?_⟩))
    ((try refine sC ?_); refine sF ?_; refine SLe.of_eq ?_; (simp only [fileOk, ← bne_eq, hg]; (try rfl)))
def fileRead (o : GObject) (k : Int) : Int × Bool × Int :=
  if (!fileOk o) = true then (0, false, 1) else if decide (k < 0) = true then (0, false, 2) else if decide ((o.Data.length : Int) ≤ k) = true then (0, false, 0) else (o.Data.getD k.toNat default, true, 0)
def r3f (x : Int × Bool × Int) : SV := .tup [.int .u8 x.1, .bool x.2.1, .int .i64 x.2.2]
theorem ec_ref08_Read (o : GObject) (k : Int) (ho : smallO o) : EC Tryz.prog 185 [.agg o.c, .int .i64 k] [] fun r B => B = [] ∧ r = r3f (fileRead o k) := by
  refine EC.fin (nA E_ok call_185 Tryz.func185 Tryz.ntmps185 Tryz.results185 ?_)
  (repeat (first | refine stepA ?_ | refine regA E_ok fun fr => ⟨?_⟩))
  (try refine regA E_ok fun fr => ⟨?_⟩)
  (refine EC.use (ec_ref08_Valid o ho) ?_; (try simp only [hg]); refine gA E_ok fun fr => ⟨?_⟩)
  (repeat (first | refine stepA ?_ | refine regA E_ok fun fr => ⟨?_⟩))
  (apply EV_cond; exact rfl; all_goals intro h)
  · (repeat (first | refine stepA ?_ | refine regA E_ok fun fr => ⟨?_⟩))
    ((try refine sC ?_); refine sF ?_; refine SLe.of_eq ?_; (simp only [fileRead, h, if_true, r3f]))
  have h0 := h
  clear h
  (repeat (first | refine stepA ?_ | refine regA E_ok fun fr => ⟨?_⟩))
  (apply EV_cond; exact rfl; all_goals intro h)
  · (repeat (first | refine stepA ?_ | refine regA E_ok fun fr => ⟨?_⟩))
    ((try refine sC ?_); refine sF ?_; refine SLe.of_eq ?_; (simp only [fileRead, h0, h, if_true, if_false, Bool.false_eq_true, r3f]))
  have h1 := h
  clear h
  (repeat (first | refine stepA ?_ | refine regA E_ok fun fr => ⟨?_⟩))
  (apply EV_cond; exact rfl; all_goals intro h)
  · (repeat (first | refine stepA ?_ | refine regA E_ok fun fr => ⟨?_⟩))
    ((try refine sC ?_); refine sF ?_; refine SLe.of_eq ?_; (simp only [fileRead, h0, h1, h, if_true, if_false, Bool.false_eq_true, r3f]))
  · have h3 : 0 ≤ k ∧ k < o.Data.length := by simp at h h1; omega
    (repeat (first | refine stepA ?_ | refine regA E_ok fun fr => ⟨?_⟩))
    ((try refine sC ?_); refine sF ?_; refine SLe.of_eq ?_; (simp only [fileRead, h0, h1, h, if_true, if_false, Bool.false_eq_true, r3f]))
def wrD (D : List Int) (k : Nat) (c : Int) : List Int := (D ++ List.replicate (k + 1 - D.length) 0).set k c
def fileWrite (o : GObject) (k c : Int) : GObject × Int :=
  if (!fileOk o) = true then (default, 1) else if decide (k < 0) = true then (default, 2) else if decide (4096 ≤ k) = true then (default, 9) else ({ o with Data := wrD o.Data k.toNat c }, 0)
theorem fileOk_len {o : GObject} (h : (!fileOk o) = false) : o.Data.length ≤ 4096 := by
  simp [fileOk] at h; omega
theorem rep_snoc (D : List Int) (j : Nat) : (D ++ List.replicate j 0) ++ [0] = D ++ List.replicate (j + 1) 0 := by
  rw [List.append_assoc, List.replicate_succ']
def r2f (x : GObject × Int) : SV := .tup [.agg x.1.c, .int .i64 x.2]
theorem ec_ref08_Write (o : GObject) (k c : Int) (ho : smallO o) : EC Tryz.prog 188 [.agg o.c, .int .i64 k, .int .u8 c] [] fun r B => B = [] ∧ r = r2f (fileWrite o k c) := by
  refine EC.fin (nA E_ok call_188 Tryz.func188 Tryz.ntmps188 Tryz.results188 ?_)
  (repeat (first | refine stepA ?_ | refine regA E_ok fun fr => ⟨?_⟩))
  (try refine regA E_ok fun fr => ⟨?_⟩)
  (refine EC.use (ec_ref08_Valid o ho) ?_; (try simp only [hg]); refine gA E_ok fun fr => ⟨?_⟩)
  (repeat (first | refine stepA ?_ | refine regA E_ok fun fr => ⟨?_⟩))
  (apply EV_cond; exact rfl; all_goals intro h)
  · (repeat (first | refine stepA ?_ | refine regA E_ok fun fr => ⟨?_⟩))
    ((try refine sC ?_); refine sF ?_; refine SLe.of_eq ?_; (simp only [fileWrite, h, if_true, r2f]))
  have h0 := h
  clear h
  have hl := fileOk_len h0
  (repeat (first | refine stepA ?_ | refine regA E_ok fun fr => ⟨?_⟩))
  (apply EV_cond; exact rfl; all_goals intro h)
  · (repeat (first | refine stepA ?_ | refine regA E_ok fun fr => ⟨?_⟩))
    ((try refine sC ?_); refine sF ?_; refine SLe.of_eq ?_; (simp only [fileWrite, h0, h, if_true, if_false, Bool.false_eq_true, r2f]))
  have h1 := h
  clear h
  (repeat (first | refine stepA ?_ | refine regA E_ok fun fr => ⟨?_⟩))
  (apply EV_cond; exact rfl; all_goals intro h)
  · (repeat (first | refine stepA ?_ | refine regA E_ok fun fr => ⟨?_⟩))
    ((try refine sC ?_); refine sF ?_; refine SLe.of_eq ?_; (simp only [fileWrite, h0, h1, h, if_true, if_false, Bool.false_eq_true, r2f]))
  have h2 := h
  clear h
  have hk : 0 ≤ k ∧ k < 4096 := by simp at h1 h2; omega
  obtain ⟨kn, rfl⟩ := Int.eq_ofNat_of_zero_le hk.1
  (repeat (first | refine stepS ?_ | refine regA E_ok fun fr => ⟨?_⟩))
  generalize fr 2 = hz
  refine EV_block ?_
  refine EV_loopB [1, 2, 3, 6, 7] (fun s : Nat × RowH => []) (fun B s => updH (updX B 0 [putL o.c 24 [.row 2 s.2 1 0 (o.Data ++ List.replicate s.1 0).length]]) 2 s.2 ((o.Data ++ List.replicate s.1 0).map (intC .u8))) (fun s => s.1 = 0 ∨ o.Data.length + s.1 ≤ kn + 1) (fun s => kn + 1 - (o.Data.length + s.1)) (0, hz) (.inl rfl) trivial (by simp [updH, updX, setX]) ?_
  rintro ⟨j, hh⟩ hj
  dsimp only at hj
  obtain ⟨m, hm, hml⟩ : ∃ m, o.Data ++ List.replicate j 0 = m ∧ m.length = o.Data.length + j := ⟨_, rfl, by simp⟩
  have hml2 : m.length ≤ 5000 := by omega
  refine sK ?_
  simp only [hm]
  (repeat (first | refine stepA ?_ | refine regA E_ok fun fr => ⟨?_⟩))
  (apply EV_cond; exact rfl; all_goals intro h)
  · have hlt : m.length ≤ kn := by simp at h; omega
    clear h
    (repeat (first | refine stepS ?_ | refine regA E_ok fun fr => ⟨?_⟩))
    refine EV_block ?_
    (try refine regA E_ok fun fr => ⟨?_⟩)
    generalize fr 3 = hy
    have e : m ++ [0] = o.Data ++ List.replicate (j + 1) 0 := by rw [← hm, rep_snoc]
    have e2 : m.length + 1 = (o.Data ++ List.replicate (j + 1) 0).length := by simp [hml]; omega
    simp only [e, e2]
    (first | apply_assumption -exfalso | (try refine sT ?_))
    (repeat (first | refine stepA ?_ | refine regA E_ok fun fr => ⟨?_⟩))
    ((try refine sT ?_); first | refine nxA ((j + 1, hy)) ?_ ?_ | refine nxB ((j + 1, hy)) ?_ ?_)
    · right; dsimp only; omega
    · dsimp only; omega
  · have hge : kn < m.length := by simp at h; omega
    clear h
    have hje : j = kn + 1 - o.Data.length := by omega
    (repeat (first | refine stepA ?_ | refine regA E_ok fun fr => ⟨?_⟩))
    (try refine sC ?_)
    rw [show r2f (fileWrite o (kn : Int) c) = .tup [.agg (GObject.c { o with Data := m.set kn c }), .int .i64 0] by
      simp only [fileWrite, h0, h1, h2, if_false, Bool.false_eq_true, r2f, wrD, Int.toNat_natCast, ← hje, hm]]
    exact fin_t2 (.agg ((FzL.O _).put 24 (FzC.row (cells := intC .u8) (d := default) rfl (by simp) (by simp)) (GObject.p24 _ _))) .int
end Go.Proofs.YtfmldmafigpblaaGreatDoor
end
section
namespace Go.Proofs.YtfmldmafigpblaaGreatDoor
open Go.Lift
set_option linter.unusedSimpArgs false
set_option linter.unusedVariables false
set_option maxRecDepth 10000
def pipeOk (o : GObject) : Bool := o.Kind == 5 && !(o.ID == 0) && decide (0 ≤ o.Readers) && decide (o.Readers ≤ 1073741824) && decide (0 ≤ o.Writers) && decide (o.Writers ≤ 1073741824) && decide (0 < IntKind.i64.wrap (o.Readers + o.Writers)) && decide ((o.Data.length : Int) ≤ 64) && onlyB o 200
theorem pipe_bare (o : GObject) : onlyB o 200 = bareB { o with Readers := 0, Writers := 0, Data := [] } := by
  have h1 : bitI .andNot .i64 1 200 = 1 := by decide
  have h2 : bitI .andNot .i64 2 200 = 2 := by decide
  have h3 : bitI .andNot .i64 4 200 = 4 := by decide
  have h4 : bitI .andNot .i64 8 200 = 0 := by decide
  have h5 : bitI .andNot .i64 16 200 = 16 := by decide
  have h6 : bitI .andNot .i64 32 200 = 32 := by decide
  have h7 : bitI .andNot .i64 64 200 = 0 := by decide
  have h8 : bitI .andNot .i64 128 200 = 0 := by decide
  have h9 : bitI .andNot .i64 256 200 = 256 := by decide
  have h10 : bitI .andNot .i64 512 200 = 512 := by decide
  have h11 : bitI .andNot .i64 1024 200 = 1024 := by decide
  have h12 : bitI .andNot .i64 2048 200 = 2048 := by decide
  have h13 : bitI .andNot .i64 4096 200 = 4096 := by decide
  apply Bool.eq_iff_iff.2
  simp [onlyB, okB, bareB, h1, h2, h3, h4, h5, h6, h7, h8, h9, h10, h11, h12, h13]
  constructor <;> (intro h; simp [h])
theorem ec_ref11_Valid (o : GObject) (ho : smallO o) : EC Tryz.prog 196 [.agg o.c] [] fun r B => B = [] ∧ r = .bool (pipeOk o) := by
  refine EC.fin (nA E_ok call_196 Tryz.func196 Tryz.ntmps196 Tryz.results196 ?_)
  (repeat (first | refine stepA ?_ | refine regA E_ok fun fr => ⟨?_⟩))
  (try refine regA E_ok fun fr => ⟨?_⟩)
  refine ⟨fun hg => ?_, fun hg => ?_⟩
  · (refine EC.uses (ec_ref06_Bare { o with Readers := 0, Writers := 0, Data := [] }) (.cons (SLe.agg (LLe.put (LLe.refl _) 24 sle_nilL (GObject.p24 _ _))) .nil) ?_; (try simp only [hg]); refine gA E_ok fun fr => ⟨?_⟩)
    (repeat (first | refine stepA ?_ | refine regA E_ok fun fr => ⟨?_⟩))
    ((try refine sC ?_); refine sF ?_; refine SLe.of_eq ?_; (simp only [pipeOk, ← bne_eq, hg, pipe_bare]; (try rfl)))
  · ((try simp only [hg]); refine gA E_ok fun fr => ⟨?_⟩)
    (repeat (first | refine stepA ?_ | refine regA E_ok fun fr => ⟨?_⟩))
    ((try refine sC ?_); refine sF ?_; refine SLe.of_eq ?_; (simp only [pipeOk, ← bne_eq, hg]; (try rfl)))
def pipeRead (o : GObject) : Int × GObject × Int :=
  if (!pipeOk o) = true then (0, default, 1) else if ((o.Data.length : Int) == 0 && decide (0 < o.Writers)) = true then (0, default, 12) else if ((o.Data.length : Int) == 0) = true then (-1, o, 0)
  else (IntKind.i64.wrap (o.Data.getD 0 default), { o with Data := o.Data.drop 1 }, 0)
def pipeWrite (o : GObject) (c : Int) : GObject × Int :=
  if (!pipeOk o) = true then (default, 1) else if (o.Readers == 0) = true then (default, 13) else if ((o.Data.length : Int) == 64) = true then (default, 12) else ({ o with Data := o.Data ++ [c] }, 0)
def r3p (x : Int × GObject × Int) : SV := .tup [.int .i64 x.1, .agg x.2.1.c, .int .i64 x.2.2]
def r2w (x : GObject × Int) : SV := .tup [.agg x.1.c, .int .i64 x.2]
theorem pipeOk_len {o : GObject} (h : (!pipeOk o) = false) : o.Data.length ≤ 64 := by
  simp [pipeOk] at h; omega
theorem ec_ref11_Read (o : GObject) (ho : smallO o) : EC Tryz.prog 186 [.agg o.c] [] fun r B => B = [] ∧ r = r3p (pipeRead o) := by
  refine EC.fin (nA E_ok call_186 Tryz.func186 Tryz.ntmps186 Tryz.results186 ?_)
  (repeat (first | refine stepA ?_ | refine regA E_ok fun fr => ⟨?_⟩))
  (try refine regA E_ok fun fr => ⟨?_⟩)
  (refine EC.use (ec_ref11_Valid o ho) ?_; (try simp only [hg]); refine gA E_ok fun fr => ⟨?_⟩)
  (repeat (first | refine stepA ?_ | refine regA E_ok fun fr => ⟨?_⟩))
  (apply EV_cond; exact rfl; all_goals intro h)
  · (repeat (first | refine stepA ?_ | refine regA E_ok fun fr => ⟨?_⟩))
    ((try refine sC ?_); refine sF ?_; refine SLe.of_eq ?_; (simp only [pipeRead, h, if_true, r3p]))
  have h0 := h
  clear h
  have hl := pipeOk_len h0
  (repeat (first | refine stepA ?_ | refine regA E_ok fun fr => ⟨?_⟩))
  (apply EV_cond; exact rfl; all_goals intro h)
  · (repeat (first | refine stepA ?_ | refine regA E_ok fun fr => ⟨?_⟩))
    ((try refine sC ?_); refine sF ?_; refine SLe.of_eq ?_; (simp only [pipeRead, h0, h, if_true, if_false, Bool.false_eq_true, r3p]))
  have h1 := h
  clear h
  (repeat (first | refine stepA ?_ | refine regA E_ok fun fr => ⟨?_⟩))
  (apply EV_cond; exact rfl; all_goals intro h)
  · (repeat (first | refine stepA ?_ | refine regA E_ok fun fr => ⟨?_⟩))
    (refine dD E_ok [] [false, true] [0, 1, 2, 3] fol fun R hR => ?_; (repeat intro rh); (try refine sB ⟨?_⟩); (repeat ((with_reducible apply And.intro); exact sdB)); (repeat intro rh); (repeat ((with_reducible apply And.intro); exact sdB)); (try apply_assumption -exfalso))
    (repeat (first | refine stepA ?_ | refine regA E_ok fun fr => ⟨?_⟩))
    have hw : decide (0 < o.Writers) = false := by simpa only [h, Bool.true_and] using h1
    ((try refine sC ?_); refine sF ?_; refine SLe.of_eq ?_; (simp only [pipeRead, h0, h, hw, Bool.and_false, if_true, if_false, Bool.false_eq_true, r3p]))
  have hpos : 0 < o.Data.length := by simp only [beq_eq_false_iff_ne, ne_eq] at h; omega
  (repeat (first | refine stepA ?_ | refine regA E_ok fun fr => ⟨?_⟩))
  (refine dD E_ok [] [false, true, true] [0, 1, 2, 3, 4, 5] fol fun R hR => ?_; (repeat intro rh); (try refine sB ⟨?_⟩); (repeat ((with_reducible apply And.intro); exact sdB)); (repeat intro rh); (repeat ((with_reducible apply And.intro); exact sdB)); (try apply_assumption -exfalso))
  (repeat (first | refine stepA ?_ | refine regA E_ok fun fr => ⟨?_⟩))
  (try refine sC ?_)
  rw [show r3p (pipeRead o) = .tup [.int .i64 (IntKind.i64.wrap (o.Data.getD 0 default)), .agg (GObject.c { o with Data := o.Data.drop 1 }), .int .i64 0] by simp only [pipeRead, h0, h, Bool.false_and, if_false, Bool.false_eq_true, r3p]]
  have er : (List.range (o.Data.length - 1)).map (elt (intC .u8) default (o.Data.drop 1)) = (o.Data.drop 1).map (intC .u8) := by
    have := range_elt (c := intC .u8) (d := default) (l := o.Data.drop 1)
    rwa [show (o.Data.drop 1).length = o.Data.length - 1 by simp] at this
  exact fin_t3 .int (.agg ((FzL.O _).put 24 (FzC.row (cells := intC .u8) (d := default) rfl er (by simp)) (GObject.p24 _ _))) .int
theorem ec_ref11_Write (o : GObject) (c : Int) (ho : smallO o) : EC Tryz.prog 189 [.agg o.c, .int .u8 c] [] fun r B => B = [] ∧ r = r2w (pipeWrite o c) := by
  refine EC.fin (nA E_ok call_189 Tryz.func189 Tryz.ntmps189 Tryz.results189 ?_)
  (repeat (first | refine stepA ?_ | refine regA E_ok fun fr => ⟨?_⟩))
  (try refine regA E_ok fun fr => ⟨?_⟩)
  (refine EC.use (ec_ref11_Valid o ho) ?_; (try simp only [hg]); refine gA E_ok fun fr => ⟨?_⟩)
  (repeat (first | refine stepA ?_ | refine regA E_ok fun fr => ⟨?_⟩))
  (apply EV_cond; exact rfl; all_goals intro h)
  · (repeat (first | refine stepA ?_ | refine regA E_ok fun fr => ⟨?_⟩))
    ((try refine sC ?_); refine sF ?_; refine SLe.of_eq ?_; (simp only [pipeWrite, h, if_true, r2w]))
  have h0 := h
  clear h
  have hl := pipeOk_len h0
  (repeat (first | refine stepA ?_ | refine regA E_ok fun fr => ⟨?_⟩))
  (apply EV_cond; exact rfl; all_goals intro h)
  · (repeat (first | refine stepA ?_ | refine regA E_ok fun fr => ⟨?_⟩))
    ((try refine sC ?_); refine sF ?_; refine SLe.of_eq ?_; (simp only [pipeWrite, h0, h, if_true, if_false, Bool.false_eq_true, r2w]))
  have h1 := h
  clear h
  have e64 : decide (64 ≤ (o.Data.length : Int)) = ((o.Data.length : Int) == 64) := by
    apply Bool.eq_iff_iff.2; simp; omega
  (repeat (first | refine stepA ?_ | refine regA E_ok fun fr => ⟨?_⟩))
  (apply EV_cond; exact rfl; all_goals intro h)
  · rw [e64] at h
    (repeat (first | refine stepA ?_ | refine regA E_ok fun fr => ⟨?_⟩))
    ((try refine sC ?_); refine sF ?_; refine SLe.of_eq ?_; (simp only [pipeWrite, h0, h1, h, if_true, if_false, Bool.false_eq_true, r2w]))
  rw [e64] at h
  (repeat (first | refine stepA ?_ | refine regA E_ok fun fr => ⟨?_⟩))
  (try refine sC ?_)
  rw [show r2w (pipeWrite o c) = .tup [.agg (GObject.c { o with Data := o.Data ++ [c] }), .int .i64 0] by simp only [pipeWrite, h0, h1, h, if_false, Bool.false_eq_true, r2w]]
  exact fin_t2 (.agg ((FzL.O _).put 24 (FzC.row (cells := intC .u8) (d := default) rfl (by simp) (by simp)) (GObject.p24 _ _))) .int
end Go.Proofs.YtfmldmafigpblaaGreatDoor
end
section
namespace Go.Proofs.YtfmldmafigpblaaGreatDoor
open Go.Lift
set_option linter.unusedSimpArgs false
set_option linter.unusedVariables false
set_option maxRecDepth 10000
def portHd (o : GObject) : Bool := o.Kind == 6 && !(o.ID == 0) && decide (0 ≤ o.Refs) && decide (o.Refs ≤ 1073741824) && decide ((o.Backlog.length : Int) ≤ 8)
def portOk (o : GObject) : Bool := portHd o && idsOk o.Backlog && onlyB o 257
theorem port_bare (o : GObject) : onlyB o 257 = bareB { o with Refs := 0, Backlog := [] } := by
  have h1 : bitI .andNot .i64 1 257 = 0 := by decide
  have h2 : bitI .andNot .i64 2 257 = 2 := by decide
  have h3 : bitI .andNot .i64 4 257 = 4 := by decide
  have h4 : bitI .andNot .i64 8 257 = 8 := by decide
  have h5 : bitI .andNot .i64 16 257 = 16 := by decide
  have h6 : bitI .andNot .i64 32 257 = 32 := by decide
  have h7 : bitI .andNot .i64 64 257 = 64 := by decide
  have h8 : bitI .andNot .i64 128 257 = 128 := by decide
  have h9 : bitI .andNot .i64 256 257 = 0 := by decide
  have h10 : bitI .andNot .i64 512 257 = 512 := by decide
  have h11 : bitI .andNot .i64 1024 257 = 1024 := by decide
  have h12 : bitI .andNot .i64 2048 257 = 2048 := by decide
  have h13 : bitI .andNot .i64 4096 257 = 4096 := by decide
  apply Bool.eq_iff_iff.2
  simp [onlyB, okB, bareB, h1, h2, h3, h4, h5, h6, h7, h8, h9, h10, h11, h12, h13]
  constructor <;> (intro h; simp [h])
def portCall (o : GObject) (k : Int) : GObject × Int :=
  if (!portOk o || k == 0 || decide (k ∈ o.Backlog)) = true then (default, 1) else if (o.Refs == 0) = true then (default, 13) else if ((o.Backlog.length : Int) == 8) = true then (default, 9) else ({ o with Backlog := o.Backlog ++ [k] }, 0)
def portTake (o : GObject) : Int × GObject × Int :=
  if (!portOk o) = true then (0, default, 1) else if ((o.Backlog.length : Int) == 0) = true then (0, default, 12) else (o.Backlog.getD 0 default, { o with Backlog := o.Backlog.drop 1 }, 0)
def r2q (x : GObject × Int) : SV := .tup [.agg x.1.c, .int .i64 x.2]
def r3q (x : Int × GObject × Int) : SV := .tup [.int .u64 x.1, .agg x.2.1.c, .int .i64 x.2.2]
theorem portOk_len {o : GObject} (h : (!portOk o) = false) : o.Backlog.length ≤ 8 := by
  simp [portOk, portHd] at h; omega
end Go.Proofs.YtfmldmafigpblaaGreatDoor
end
section
namespace Go.Proofs.YtfmldmafigpblaaGreatDoor
open Go.Lift
set_option linter.unusedSimpArgs false
set_option linter.unusedVariables false
set_option maxRecDepth 10000
theorem ec_ref12_ValidPort (o : GObject) (ho : smallO o) : EC Tryz.prog 192 [.agg o.c] [] fun r B => B = [] ∧ r = .bool (portOk o) := by
  have hB := ho.2.2.2.1
  refine EC.fin (nA E_ok call_192 Tryz.func192 Tryz.ntmps192 Tryz.results192 ?_)
  (repeat (first | refine stepA ?_ | refine regA E_ok fun fr => ⟨?_⟩))
  refine EV_loopL [1, 31, 32] (fun i : Nat => [(33, .int .i64 i), (3, .bool (portHd o && (List.range i).all (idP o.Backlog)))]) (fun i => i ≤ o.Backlog.length) (fun i => o.Backlog.length - i) 0 (Nat.zero_le _) ⟨rfl, by simp only [portHd, ← bne_eq, List.range_zero, List.all_nil, Bool.and_true]; rfl, trivial⟩ ?_
  rintro i hi
  refine sK ?_
  (repeat (first | refine stepA ?_ | refine regA E_ok fun fr => ⟨?_⟩))
  (apply EV_cond; exact rfl; all_goals intro h)
  · have hlt : i < o.Backlog.length := by simp at h; omega
    clear h
    have hs : (List.range (i + 1)).all (idP o.Backlog) = ((List.range i).all (idP o.Backlog) && idP o.Backlog i) := by rw [List.range_succ, List.all_append]; simp
    (repeat (first | refine stepA ?_ | refine regA E_ok fun fr => ⟨?_⟩))
    (try refine regA E_ok fun fr => ⟨?_⟩)
    generalize hb : (portHd o && (List.range i).all (idP o.Backlog)) = b
    refine ⟨fun hg => ?_, fun hg => ?_⟩
    · (refine EC.use (ec_ref03_HasS (o.Backlog.take i) (o.Backlog.getD i default) (by simp; omega)) ?_; (try simp only [hg]); refine gA E_ok fun fr => ⟨?_⟩)
      (repeat (first | refine stepA ?_ | refine regA E_ok fun fr => ⟨?_⟩))
      have hv : (!decide (o.Backlog.getD i default ∈ List.take i o.Backlog)) = (portHd o && (List.range (i + 1)).all (idP o.Backlog)) := by
        rw [hs, ← Bool.and_assoc, hb]
        simp only [Bool.and_eq_true] at hg
        simp only [idP, hg.1, ← bne_eq, hg.2, Bool.true_and]
      rw [hv]
      ((try refine sT ?_); first | refine nxA (i + 1) ?_ ?_ | refine nxB (i + 1) ?_ ?_)
      · omega
      · omega
    · have hv : false = (portHd o && (List.range (i + 1)).all (idP o.Backlog)) := by
        rw [hs, ← Bool.and_assoc, hb]
        simp only [idP, ← bne_eq, ← Bool.and_assoc, hg, Bool.false_and]
      ((try simp only [hg]); refine gA E_ok fun fr => ⟨?_⟩)
      (repeat (first | refine stepA ?_ | refine regA E_ok fun fr => ⟨?_⟩))
      rw [hv]
      ((try refine sT ?_); first | refine nxA (i + 1) ?_ ?_ | refine nxB (i + 1) ?_ ?_)
      · omega
      · omega
  · have e : i = o.Backlog.length := by simp at h; omega
    clear h
    subst e
    (repeat (first | refine stepA ?_ | refine regA E_ok fun fr => ⟨?_⟩))
    (try refine regA E_ok fun fr => ⟨?_⟩)
    refine ⟨fun hg => ?_, fun hg => ?_⟩
    · (refine EC.uses (ec_ref06_Bare { o with Refs := 0, Backlog := [] }) (.cons (SLe.agg (LLe.put (LLe.refl _) 29 sle_nilL (GObject.p29 _ _))) .nil) ?_; (try simp only [hg]); refine gA E_ok fun fr => ⟨?_⟩)
      (repeat (first | refine stepA ?_ | refine regA E_ok fun fr => ⟨?_⟩))
      ((try refine sC ?_); refine sF ?_; refine SLe.of_eq ?_; (simp only [portOk, idsOk, hg, port_bare]; (try rfl)))
    · ((try simp only [hg]); refine gA E_ok fun fr => ⟨?_⟩)
      (repeat (first | refine stepA ?_ | refine regA E_ok fun fr => ⟨?_⟩))
      ((try refine sC ?_); refine sF ?_; refine SLe.of_eq ?_; (simp only [portOk, idsOk, hg]; (try rfl)))
theorem ec_ref12_Call (o : GObject) (k : Int) (ho : smallO o) : EC Tryz.prog 177 [.agg o.c, .int .u64 k] [] fun r B => B = [] ∧ r = r2q (portCall o k) := by
  refine EC.fin (nA E_ok call_177 Tryz.func177 Tryz.ntmps177 Tryz.results177 ?_)
  (repeat (first | refine stepA ?_ | refine regA E_ok fun fr => ⟨?_⟩))
  (try refine regA E_ok fun fr => ⟨?_⟩)
  (refine EC.use (ec_ref12_ValidPort o ho) ?_; (try simp only [hg]); refine gA E_ok fun fr => ⟨?_⟩)
  refine ⟨fun hg => ?_, fun hg => ?_⟩
  · have h9 := hg
    simp only [Bool.or_eq_false_iff] at h9
    have hl := portOk_len h9.1
    have e8 : decide (8 ≤ (o.Backlog.length : Int)) = ((o.Backlog.length : Int) == 8) := by
      apply Bool.eq_iff_iff.2; simp; omega
    (refine EC.use (ec_ref03_HasS o.Backlog k (by omega)) ?_; (try simp only [hg]); refine gA E_ok fun fr => ⟨?_⟩)
    (repeat (first | refine stepA ?_ | refine regA E_ok fun fr => ⟨?_⟩))
    (apply EV_cond; exact rfl; all_goals intro h)
    · (repeat (first | refine stepA ?_ | refine regA E_ok fun fr => ⟨?_⟩))
      ((try refine sC ?_); refine sF ?_; refine SLe.of_eq ?_; (simp only [portCall, hg, h, Bool.or_true, Bool.false_or, if_true, r2q]))
    have h0 := h
    clear h
    (repeat (first | refine stepA ?_ | refine regA E_ok fun fr => ⟨?_⟩))
    (apply EV_cond; exact rfl; all_goals intro h)
    · (repeat (first | refine stepA ?_ | refine regA E_ok fun fr => ⟨?_⟩))
      ((try refine sC ?_); refine sF ?_; refine SLe.of_eq ?_; (simp only [portCall, hg, h0, h, Bool.or_self, if_true, if_false, Bool.false_eq_true, r2q]))
    have h1 := h
    clear h
    (repeat (first | refine stepA ?_ | refine regA E_ok fun fr => ⟨?_⟩))
    (apply EV_cond; exact rfl; all_goals intro h)
    · rw [e8] at h
      (repeat (first | refine stepA ?_ | refine regA E_ok fun fr => ⟨?_⟩))
      ((try refine sC ?_); refine sF ?_; refine SLe.of_eq ?_; (simp only [portCall, hg, h0, h1, h, Bool.or_self, if_true, if_false, Bool.false_eq_true, r2q]))
    rw [e8] at h
    (repeat (first | refine stepA ?_ | refine regA E_ok fun fr => ⟨?_⟩))
    (try refine sC ?_)
    rw [show r2q (portCall o k) = .tup [.agg (GObject.c { o with Backlog := o.Backlog ++ [k] }), .int .i64 0] by simp only [portCall, hg, h0, h1, h, Bool.or_self, if_false, Bool.false_eq_true, r2q]]
    exact fin_t2 (.agg ((FzL.O _).put 29 (FzC.row (cells := intC .u64) (d := default) rfl (by simp) (by simp)) (GObject.p29 _ _))) .int
  · rw [Bool.not_eq_false'] at hg
    ((try simp only [hg]); refine gA E_ok fun fr => ⟨?_⟩)
    (repeat (first | refine stepA ?_ | refine regA E_ok fun fr => ⟨?_⟩))
    (apply EV_cond; exact rfl; all_goals intro h)
    · (repeat (first | refine stepA ?_ | refine regA E_ok fun fr => ⟨?_⟩))
      ((try refine sC ?_); refine sF ?_; refine SLe.of_eq ?_; (simp only [portCall, hg, Bool.true_or, if_true, r2q]))
    · simp at h
theorem ec_ref12_Accept (o : GObject) (ho : smallO o) : EC Tryz.prog 179 [.agg o.c] [] fun r B => B = [] ∧ r = r3q (portTake o) := by
  refine EC.fin (nA E_ok call_179 Tryz.func179 Tryz.ntmps179 Tryz.results179 ?_)
  (repeat (first | refine stepA ?_ | refine regA E_ok fun fr => ⟨?_⟩))
  (try refine regA E_ok fun fr => ⟨?_⟩)
  (refine EC.use (ec_ref12_ValidPort o ho) ?_; (try simp only [hg]); refine gA E_ok fun fr => ⟨?_⟩)
  (repeat (first | refine stepA ?_ | refine regA E_ok fun fr => ⟨?_⟩))
  (apply EV_cond; exact rfl; all_goals intro h)
  · (repeat (first | refine stepA ?_ | refine regA E_ok fun fr => ⟨?_⟩))
    ((try refine sC ?_); refine sF ?_; refine SLe.of_eq ?_; (simp only [portTake, h, if_true, r3q]))
  have h0 := h
  clear h
  have hl := portOk_len h0
  (repeat (first | refine stepA ?_ | refine regA E_ok fun fr => ⟨?_⟩))
  (apply EV_cond; exact rfl; all_goals intro h)
  · (repeat (first | refine stepA ?_ | refine regA E_ok fun fr => ⟨?_⟩))
    ((try refine sC ?_); refine sF ?_; refine SLe.of_eq ?_; (simp only [portTake, h0, h, if_true, if_false, Bool.false_eq_true, r3q]))
  have hpos : 0 < o.Backlog.length := by simp only [beq_eq_false_iff_ne, ne_eq] at h; omega
  (repeat (first | refine stepA ?_ | refine regA E_ok fun fr => ⟨?_⟩))
  (refine dD E_ok [] [false, true] [0, 1, 2, 3, 4] fol fun R hR => ?_; (repeat intro rh); (try refine sB ⟨?_⟩); (repeat ((with_reducible apply And.intro); exact sdB)); (repeat intro rh); (repeat ((with_reducible apply And.intro); exact sdB)); (try apply_assumption -exfalso))
  (repeat (first | refine stepA ?_ | refine regA E_ok fun fr => ⟨?_⟩))
  (try refine sC ?_)
  rw [show r3q (portTake o) = .tup [.int .u64 (o.Backlog.getD 0 default), .agg (GObject.c { o with Backlog := o.Backlog.drop 1 }), .int .i64 0] by simp only [portTake, h0, h, if_false, Bool.false_eq_true, r3q]]
  have er : (List.range (o.Backlog.length - 1)).map (elt (intC .u64) default (o.Backlog.drop 1)) = (o.Backlog.drop 1).map (intC .u64) := by
    have := range_elt (c := intC .u64) (d := default) (l := o.Backlog.drop 1)
    rwa [show (o.Backlog.drop 1).length = o.Backlog.length - 1 by simp] at this
  exact fin_t3 .int (.agg ((FzL.O _).put 29 (FzC.row (cells := intC .u64) (d := default) rfl er (by simp)) (GObject.p29 _ _))) .int
end Go.Proofs.YtfmldmafigpblaaGreatDoor
end
section
namespace Go.Proofs.YtfmldmafigpblaaGreatDoor
open Go.Lift
set_option linter.unusedSimpArgs false
set_option linter.unusedVariables false
set_option maxRecDepth 10000
def chEnd (e : Int) (q : List Int) : Bool := !(decide (e < 0) || decide (1073741824 < e) || decide (64 < (q.length : Int)))
def chanOk (o : GObject) : Bool := chEnd o.Ends.x0 o.Queues.x0 && chEnd o.Ends.x1 o.Queues.x1 && (o.Kind == 7 && !(o.ID == 0) && !(o.Ends == default) && onlyB o 1536)
theorem chan_bare (o : GObject) : onlyB o 1536 = bareB { o with Queues := default, Ends := default } := by
  have h1 : bitI .andNot .i64 1 1536 = 1 := by decide
  have h2 : bitI .andNot .i64 2 1536 = 2 := by decide
  have h3 : bitI .andNot .i64 4 1536 = 4 := by decide
  have h4 : bitI .andNot .i64 8 1536 = 8 := by decide
  have h5 : bitI .andNot .i64 16 1536 = 16 := by decide
  have h6 : bitI .andNot .i64 32 1536 = 32 := by decide
  have h7 : bitI .andNot .i64 64 1536 = 64 := by decide
  have h8 : bitI .andNot .i64 128 1536 = 128 := by decide
  have h9 : bitI .andNot .i64 256 1536 = 256 := by decide
  have h10 : bitI .andNot .i64 512 1536 = 0 := by decide
  have h11 : bitI .andNot .i64 1024 1536 = 0 := by decide
  have h12 : bitI .andNot .i64 2048 1536 = 2048 := by decide
  have h13 : bitI .andNot .i64 4096 1536 = 4096 := by decide
  apply Bool.eq_iff_iff.2
  simp [onlyB, okB, bareB, h1, h2, h3, h4, h5, h6, h7, h8, h9, h10, h11, h12, h13]
  constructor <;> (intro h; simp [h])
  exact ⟨rfl, rfl⟩
theorem a2_01 (a b : SV) : putL (putL (A2Lu8.c default) 0 [a]) 1 [b] = [a, b] := rfl
theorem a2_10 (a b : SV) : putL (putL (A2Lu8.c default) 1 [a]) 0 [b] = [b, a] := rfl
theorem a2_q (a b : SV) : putL (A2Lu8.c default) 0 [a, b] = [a, b] := rfl
theorem a2_s (i j : Nat) (h k : RowH) (e e' a a' n n' : Nat) : solids [.row i h e a n, .row j k e' a' n'] = true := rfl
theorem a2_t (a b : SV) : List.take 2 [a, b] = [a, b] := rfl
theorem a2_l (a b : SV) : List.length [a, b] = 2 := rfl
attribute [push_cast] a2_01 a2_10 a2_q a2_s a2_t a2_l
def clR (n : Nat) (h : RowH) (i : Nat) : SV := .row i h 1 0 n
attribute [push_cast] clR
def qq (o : GObject) (a b : SV) : List SV := putL (putL o.c 30 [a]) 31 [b]
theorem qq_mk (o : GObject) (a b : SV) : putL (putL o.c 30 [a]) 31 [b] = qq o a b := rfl
theorem qq_len (o : GObject) (a b : SV) : (qq o a b).length = 36 := rfl
theorem qq_t (o : GObject) (a b : SV) : (qq o a b).take 36 = qq o a b := rfl
theorem qq_s (o : GObject) (i j : Nat) (h k : RowH) (e e' a a' n n' : Nat) : solids (qq o (.row i h e a n) (.row j k e' a' n')) = true := by simp [qq, putL, GObject.c, solids, SV.solid]
theorem qq_d (o : GObject) (a b : SV) : putL (GObject.c default) 0 (qq o a b) = qq o a b := putL_app (by simp only [GObject.len, qq_len]; decide) rfl
theorem qq_g0 (o : GObject) (a b d : SV) : (qq o a b).getD 30 d = a := rfl
theorem qq_g1 (o : GObject) (a b d : SV) : (qq o a b).getD 31 d = b := rfl
theorem qq_p0 (o : GObject) (a b c : SV) : putL (qq o a b) 30 [c] = qq o c b := rfl
theorem qq_p1 (o : GObject) (a b c : SV) : putL (qq o a b) 31 [c] = qq o a c := rfl
attribute [push_cast] qq_mk qq_len qq_t qq_s qq_d qq_g0 qq_g1 qq_p0 qq_p1
def ownR (o : GObject) (s : RowH × RowH) (i : Nat) : SV := .agg (qq o (.row i s.1 1 0 o.Queues.x0.length) (.row (i + 1) s.2 1 0 o.Queues.x1.length))
attribute [push_cast] ownR
theorem chEnd_eq (e : Int) (q : List Int) : chEnd e q = (decide (0 ≤ e) && decide (e ≤ 1073741824) && decide ((q.length : Int) ≤ 64)) := by
  apply Bool.eq_iff_iff.2; simp [chEnd, Int.not_lt]
theorem FzL.two {B : List Own} {a b c d : SV} (h1 : FzC B a c) (h2 : FzC B b d) : FzL B [a, b] [c, d] := ⟨⟨h1.1, h2.1, trivial⟩, .cons h1.2 (.cons h2.2 .nil)⟩
def qOf (o : GObject) (k : Int) : List Int := if k = 0 then o.Queues.x0 else o.Queues.x1
def eOf (o : GObject) (k : Int) : Int := if k = 0 then o.Ends.x0 else o.Ends.x1
def putQ (o : GObject) (k : Int) (D : List Int) : GObject := if k = 0 then { o with Queues := { o.Queues with x0 := D } } else { o with Queues := { o.Queues with x1 := D } }
def chanRead (o : GObject) (k : Int) : Int × GObject × Int :=
  if (!chanOk o || (k != 0 && k != 1)) = true then (0, default, 1) else if (((qOf o (1 - k)).length : Int) == 0 && decide (0 < eOf o (1 - k))) = true then (0, default, 12) else if (((qOf o (1 - k)).length : Int) == 0) = true then (-1, o, 0)
  else (IntKind.i64.wrap ((qOf o (1 - k)).getD 0 default), putQ o (1 - k) ((qOf o (1 - k)).drop 1), 0)
def chanWrite (o : GObject) (k c : Int) : GObject × Int :=
  if (!chanOk o || (k != 0 && k != 1)) = true then (default, 1) else if (eOf o (1 - k) == 0) = true then (default, 13) else if (((qOf o k).length : Int) == 64) = true then (default, 12) else (putQ o k (qOf o k ++ [c]), 0)
def r3c (x : Int × GObject × Int) : SV := .tup [.int .i64 x.1, .agg x.2.1.c, .int .i64 x.2.2]
def r2c (x : GObject × Int) : SV := .tup [.agg x.1.c, .int .i64 x.2]
theorem chanOk_len {o : GObject} (h : (!chanOk o) = false) : o.Queues.x0.length ≤ 64 ∧ o.Queues.x1.length ≤ 64 := by
  simp [chanOk, chEnd] at h; omega
theorem chanRead0 (o : GObject) : chanRead o 0 = if (!chanOk o) = true then (0, default, 1) else if ((o.Queues.x1.length : Int) == 0 && decide (0 < o.Ends.x1)) = true then (0, default, 12) else if ((o.Queues.x1.length : Int) == 0) = true then (-1, o, 0)
    else (IntKind.i64.wrap (o.Queues.x1.getD 0 default), { o with Queues := { o.Queues with x1 := o.Queues.x1.drop 1 } }, 0) := by simp [chanRead, qOf, eOf, putQ]
theorem chanWrite0 (o : GObject) (c : Int) : chanWrite o 0 c = if (!chanOk o) = true then (default, 1) else if (o.Ends.x1 == 0) = true then (default, 13) else if ((o.Queues.x0.length : Int) == 64) = true then (default, 12) else ({ o with Queues := { o.Queues with x0 := o.Queues.x0 ++ [c] } }, 0) := by simp [chanWrite, qOf, eOf, putQ]
theorem chanRead1 (o : GObject) : chanRead o 1 = if (!chanOk o) = true then (0, default, 1) else if ((o.Queues.x0.length : Int) == 0 && decide (0 < o.Ends.x0)) = true then (0, default, 12) else if ((o.Queues.x0.length : Int) == 0) = true then (-1, o, 0)
    else (IntKind.i64.wrap (o.Queues.x0.getD 0 default), { o with Queues := { o.Queues with x0 := o.Queues.x0.drop 1 } }, 0) := by simp [chanRead, qOf, eOf, putQ]
theorem chanWrite1 (o : GObject) (c : Int) : chanWrite o 1 c = if (!chanOk o) = true then (default, 1) else if (o.Ends.x0 == 0) = true then (default, 13) else if ((o.Queues.x1.length : Int) == 64) = true then (default, 12) else ({ o with Queues := { o.Queues with x1 := o.Queues.x1 ++ [c] } }, 0) := by simp [chanWrite, qOf, eOf, putQ]
end Go.Proofs.YtfmldmafigpblaaGreatDoor
end
