/- Right instructions. -/
import Derived.Test.YtfmldmafigpblaaDoorCode
namespace Go.Proofs.YtfmldmafigpblaaDoor
open Go.Lift
set_option linter.unusedSimpArgs false
set_option linter.unusedVariables false
set_option maxRecDepth 10000
/-- The letters of an operation's operands. -/
def opnd (op : Int) : List UInt8 := match op.toNat with | 1 => [114, 110] | 2 => [114, 114] | 3 => [114, 114, 114] | 4 => [114, 114, 114] | 5 => [114, 114, 114] | 6 => [114, 114, 114] | 7 => [114, 114, 114] | 8 => [116] | 9 => [114, 116] | 10 => [114, 114, 111] | 11 => [114, 114, 111] | 12 => [99] | _ => []
def argAt (x : GInstr) (i : Nat) : Int := [x.A, x.B, x.C].getD i 0
def okAt (x : GInstr) (len : Int) (i : Nat) : Bool := if ((opnd x.Op).length : Int) ≤ i then argAt x i == 0 else ftB ((opnd x.Op).getD i 0).toNat (argAt x i) len
def rightB (x : GInstr) (len : Int) : Bool := decide (0 ≤ x.Op) && decide (x.Op < 13) && (okAt x len 0 && okAt x len 1 && okAt x len 2)
def nmOf (op : Int) : List UInt8 := match op.toNat with | 0 => [110, 111, 112] | 1 => [115, 101, 116] | 2 => [109, 111, 118, 101] | 3 => [97, 100, 100] | 4 => [115, 117, 98] | 5 => [109, 117, 108] | 6 => [108, 101, 115, 115] | 7 => [101, 113, 117, 97, 108] | 8 => [106, 117, 109, 112] | 9 => [105, 102] | 10 => [108, 111, 97, 100] | 11 => [115, 116, 111, 114, 101] | 12 => [99, 97, 108, 108] | _ => []
theorem forms_at {op : Int} (h : 0 ≤ op ∧ op < 13) : List.take 2 (List.drop (op.toNat * 2) (GV 0)) = GForm.c { name := nmOf op, operands := opnd op } := by
  obtain ⟨n, rfl⟩ := Int.eq_ofNat_of_zero_le h.1
  have hn : n < 13 := by omega
  simp only [nmOf, opnd, Int.toNat_natCast]
  match n, hn with
  | 0, _ | 1, _ | 2, _ | 3, _ | 4, _ | 5, _ | 6, _ | 7, _ | 8, _ | 9, _ | 10, _ | 11, _ | 12, _ => rfl
theorem ec_right (x : GInstr) (len : Int) : EC Tryd.prog 27 [.agg x.c, .int .i64 len] [] fun r N => N = [] ∧ r = .bool (rightB x len) := by
  refine EC.finK ?_
  (refine EC.enterK E_ok call_27 Tryd.func27 rfl (by simp [Tryd.ntmps27]) ?_; simp only [Tryd.ntmps27, Tryd.results27, push_cast, bne_self_eq_false, simprocAttr])
  intro fr
  refine ⟨fun h => Lt.bool ?_, fun h fr1 => ?_⟩
  · have : ¬ (0 ≤ x.Op ∧ x.Op < 13) := by simp at h; omega
    simp only [rightB]
    simp; omega
  · have hr : 0 ≤ x.Op ∧ x.Op < 13 := by simp at h; omega
    have e := forms_at hr
    simp only [GV] at e
    simp only [e, push_cast, bne_self_eq_false, simprocAttr]
    refine ⟨⟨hr.1, hr.2, by omega⟩, by omega, ?_⟩
    have hb : rightB x len = (okAt x len 0 && okAt x len 1 && okAt x len 2) := by simp [rightB, hr]
    rw [hb]
    refine EV_loopK E_ok [26, 5, 1] (fun i : Nat => [(27, .int .i64 i)]) (fun B _ => B) (fun i => i ≤ 3 ∧ ∀ j, j < i → okAt x len j = true) (fun i => 3 - i) 0 ⟨by omega, by omega⟩ ?_
    rintro i ⟨hi, hok⟩
    clear e
    rcases (show i = 3 ∨ i < 3 by omega) with rfl | h3
    · have o := fun j h => hok j h
      simp only [push_cast, bne_self_eq_false, simprocAttr]
      rw [o 0 (by omega), o 1 (by omega), o 2 (by omega)]
      exact Lt.bool rfl
    have ea : (A3i64.c { x0 := x.A, x1 := x.B, x2 := x.C }).getD i SV.any = .int .i64 (argAt x i) := by
      rcases (show i = 0 ∨ i = 1 ∨ i = 2 by omega) with rfl | rfl | rfl <;> rfl
    have hz : okAt x len i = false → (okAt x len 0 && okAt x len 1 && okAt x len 2) = false := by
      rcases (show i = 0 ∨ i = 1 ∨ i = 2 by omega) with rfl | rfl | rfl <;> (intro e; simp [e])
    have hs : okAt x len i = true → i + 1 ≤ 3 ∧ ∀ j, j < i + 1 → okAt x len j = true := fun e => ⟨by omega, fun j hj => by
      rcases (show j < i ∨ j = i by omega) with h | rfl
      · exact hok j h
      · exact e⟩
    have hw : IntKind.i64.wrap ((i : Int) + 1) = ((i + 1 : Nat) : Int) := by rw [i64_in' (by omega)]; omega
    have h3' : (i : Int) < 3 := by omega
    by_cases hl : ((opnd x.Op).length : Int) ≤ i
    · have hk : okAt x len i = (argAt x i == 0) := by rw [okAt, if_pos hl]
      have hl2 : ¬ (i : Int) < (opnd x.Op).length := by omega
      simp only [ea, hl, hl2, h3', hw, push_cast, bne_self_eq_false, simprocAttr]
      refine ⟨⟨by omega, h3⟩, ?_⟩
      (repeat (refine EOK_run (m := 0) E_ok ?_; simp only [hw, push_cast, bne_self_eq_false, simprocAttr]))
      exact ⟨fun e => Lt.bool (hz (by rw [hk]; simpa using e)).symm, fun e => NX_mk (i + 1) (hs (by rw [hk]; simpa using e))⟩
    · have hk : okAt x len i = ftB ((opnd x.Op).getD i 0).toNat (argAt x i) len := by rw [okAt, if_neg hl]
      have hl2 : (i : Int) < (opnd x.Op).length := by omega
      simp only [ea, hl, hl2, h3', hw, push_cast, bne_self_eq_false, simprocAttr]
      refine ⟨⟨by omega, h3⟩, by omega, ?_⟩
      (refine EC.useK E_ok (ec_fits _ _ _) ?_; simp only [hw, hl, hl2, push_cast, bne_self_eq_false, simprocAttr])
      exact ⟨fun e => Lt.bool (hz (by rw [hk]; simpa using e)).symm, fun e => NX_mk (i + 1) (hs (by rw [hk]; simpa using e))⟩
theorem ec_indexFunc_str {g : FuncId} {p : List UInt8 → Bool} (l : List (List UInt8)) (hl : l.length ≤ 1000000)
    (hg : ∀ q : List UInt8, EC Tryd.prog g [.str q] [] fun r N => N = [] ∧ r = .bool (p q)) :
    EC Tryd.prog 40 [slL 1 strC default l, .fn g []] [] fun r N => N = [] ∧ r = .int .i64 (idxP p 0 l) := by
  refine EC.finK ?_
  (refine EC.enterK E_ok call_40 Tryd.func40 rfl (by simp [Tryd.ntmps40]) ?_; simp only [Tryd.ntmps40, Tryd.results40, push_cast, bne_self_eq_false, simprocAttr])
  refine EV_loopK E_ok [0, 1, 7] (fun i : Nat => [(8, .int .i64 i)]) (fun B _ => B) (fun i => i ≤ l.length ∧ idxP p 0 l = idxP p i (l.drop i)) (fun i => l.length - i) 0 ⟨Nat.zero_le _, rfl⟩ ?_
  rintro i ⟨hi, hx⟩
  simp only [push_cast, bne_self_eq_false, simprocAttr]
  refine ⟨fun h => ⟨⟨by omega, h⟩, ?_⟩, fun h => Lt.int ?_⟩
  · have hlt : i < l.length := by omega
    have hw : IntKind.i64.wrap ((i : Int) + 1) = ((i + 1 : Nat) : Int) := by rw [i64_in' (by omega)]; omega
    rw [idxP_step hlt] at hx
    (refine EC.useK E_ok (hg _) ?_; simp only [hw, push_cast, bne_self_eq_false, simprocAttr])
    refine ⟨fun e => Lt.int ?_, fun e => NX_mk (i + 1) ⟨by omega, ?_⟩⟩
    · rw [hx, if_pos e]
    · rw [hx, e, if_neg (by simp)]
  · have e : i = l.length := by simp at h; omega
    rw [hx, e, List.drop_length]; rfl
theorem ec_containsFunc_str {g : FuncId} {p : List UInt8 → Bool} (l : List (List UInt8)) (hl : l.length ≤ 1000000)
    (hg : ∀ q : List UInt8, EC Tryd.prog g [.str q] [] fun r N => N = [] ∧ r = .bool (p q)) :
    EC Tryd.prog 26 [slL 1 strC default l, .fn g []] [] fun r N => N = [] ∧ r = .bool (l.any p) := by
  refine EC.finK ?_
  (refine EC.enterK E_ok call_26 Tryd.func26 rfl (by simp [Tryd.ntmps26]) ?_; simp only [Tryd.ntmps26, Tryd.results26, push_cast, bne_self_eq_false, simprocAttr])
  (refine EC.useK E_ok (ec_indexFunc_str l hl hg) ?_; simp only [push_cast, bne_self_eq_false, simprocAttr])
  exact Lt.bool (idxP_ge _ _ _)
/-- The code of a program's check. -/
def chkE (p : GProgram) : Int := if decide (256 < (p.Code.length : Int)) || decide (32 < (p.Strings.length : Int)) || p.Strings.any (fun s => decide (128 < (s.length : Int))) then 3 else if decide (p.Pages < 0) || decide (16 < p.Pages) then 2 else if p.Code.all (fun x => rightB x p.Code.length) then 0 else 1
theorem ec_Check (p : GProgram) (h1 : p.Code.length ≤ 1000000) (h2 : p.Strings.length ≤ 1000000) : EC Tryd.prog 10 [.agg p.c] [] fun r N => N = [] ∧ ∃ x : Int, True ∧ r = .tup [.int .i64 x, .int .i64 (chkE p)] := by
  refine EC.finKP ?_
  (refine EC.enterK E_ok call_10 Tryd.func10 rfl (by simp [Tryd.ntmps10]) ?_; simp only [Tryd.ntmps10, Tryd.results10, push_cast, bne_self_eq_false, simprocAttr])
  intro fr
  cases h : (decide (256 < (p.Code.length : Int)) || decide (32 < (p.Strings.length : Int))) with
  | true =>
    refine ⟨fun h => (nomatch h), fun _ => ?_⟩
    (repeat (refine EOK_run (m := 0) E_ok ?_; simp only [push_cast, bne_self_eq_false, simprocAttr]))
    exact ⟨0, Lt.t2 FzA.int (FzA.intE (by simp only [chkE, h, Bool.true_or, if_true]))⟩
  | false =>
    refine ⟨fun _ => ?_, fun h => (nomatch h)⟩
    (refine EC.useK E_ok (ec_containsFunc_str _ h2 ec_long) ?_; simp only [push_cast, bne_self_eq_false, simprocAttr])
    refine ⟨fun h2 => ⟨0, Lt.t2 FzA.int (FzA.intE (by simp only [chkE, h, h2, Bool.false_or, if_true]))⟩, fun h2 => ⟨fun h3 => ⟨0, Lt.t2 FzA.int (FzA.intE (by simp [chkE, h, h2, h3]))⟩, fun h3 => ?_⟩⟩
    have hc : chkE p = if p.Code.all (fun x => rightB x p.Code.length) then 0 else 1 := by simp only [chkE, h, h2, h3, Bool.false_or, if_false, Bool.false_eq_true]
    refine EV_loopK E_ok [34, 35, 1] (fun i : Nat => [(36, .int .i64 i)]) (fun B _ => B) (fun i => i ≤ p.Code.length ∧ (p.Code.take i).all (fun x => rightB x p.Code.length) = true) (fun i => p.Code.length - i) 0 ⟨Nat.zero_le _, rfl⟩ ?_
    rintro i ⟨hi, hx⟩
    have hw : IntKind.i64.wrap ((i : Int) + 1) = ((i + 1 : Nat) : Int) := by rw [i64_in' (by omega)]; omega
    simp only [hw, push_cast, bne_self_eq_false, simprocAttr]
    refine ⟨fun e fr1 => ⟨⟨by omega, e⟩, ?_⟩, fun e => ⟨0, Lt.t2 FzA.int (FzA.intE ?_)⟩⟩
    · have hlt : i < p.Code.length := by omega
      (refine EC.useK E_ok (ec_right _ _) ?_; simp only [hw, push_cast, bne_self_eq_false, simprocAttr])
      refine ⟨fun e => ⟨i, Lt.t2 FzA.int (FzA.intE ?_)⟩, fun e => NX_mk (i + 1) ⟨by omega, ?_⟩⟩
      · rw [hc, all_fail hlt e, if_neg (by simp)]
      · exact all_succ hlt hx (by simpa using e)
    · have e : i = p.Code.length := by simp at e; omega
      rw [e, List.take_length] at hx
      rw [hc, hx, if_pos rfl]
end Go.Proofs.YtfmldmafigpblaaDoor
