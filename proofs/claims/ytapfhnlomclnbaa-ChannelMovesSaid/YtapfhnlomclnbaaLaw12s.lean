/- The laws on ports and channels: the example. -/
import Derived.Test.YtapfhnlomclnbaaPort
import Derived.Test.YtapfhnlomclnbaaChan
import Derived.Test.YtapfhnlomclnbaaLiftZ
namespace Go.Proofs.Ytapfhnlomclnbaa
open Go.Lift
set_option linter.unusedSimpArgs false
set_option linter.unusedVariables false
set_option maxRecDepth 10000
def prt (id r : Int) (B : List Int) : GObject := { (default : GObject) with ID := id, Kind := 6, Refs := r, Backlog := B }
def chn (id a b : Int) (p q : List Int) : GObject := { (default : GObject) with ID := id, Kind := 7, Queues := ⟨p, q⟩, Ends := ⟨a, b⟩ }
theorem prt_r (id r v : Int) (B : List Int) : GObject.c (GObject.mk (prt id r B).ID (prt id r B).Kind v (prt id r B).Process (prt id r B).Words (prt id r B).Data (prt id r B).Offset (prt id r B).Target (prt id r B).Readers (prt id r B).Writers (prt id r B).Backlog (prt id r B).Queues (prt id r B).Ends (prt id r B).Count (prt id r B).Names) = (prt id v B).c := rfl
theorem chn_e0 (id a b v : Int) (p q : List Int) : GObject.c (GObject.mk (chn id a b p q).ID (chn id a b p q).Kind (chn id a b p q).Refs (chn id a b p q).Process (chn id a b p q).Words (chn id a b p q).Data (chn id a b p q).Offset (chn id a b p q).Target (chn id a b p q).Readers (chn id a b p q).Writers (chn id a b p q).Backlog (chn id a b p q).Queues ⟨v, (chn id a b p q).Ends.x1⟩ (chn id a b p q).Count (chn id a b p q).Names) = (chn id v b p q).c := rfl
theorem prt_small {id r : Int} {B : List Int} (h : B.length ≤ 1000000) : smallO (prt id r B) :=
  ⟨small0.1, small0.2.1, small0.2.2.1, h, small0.2.2.2.2.1, small0.2.2.2.2.2.1, small0.2.2.2.2.2.2.1, small0.2.2.2.2.2.2.2⟩
theorem chn_small {id a b : Int} {p q : List Int} (h : p.length ≤ 1000000) (h' : q.length ≤ 1000000) : smallO (chn id a b p q) :=
  ⟨small0.1, small0.2.1, small0.2.2.1, small0.2.2.2.1, h, h', small0.2.2.2.2.2.2.1, small0.2.2.2.2.2.2.2⟩
theorem prt_ok {id r : Int} {B : List Int} (hid : id ≠ 0) (hr : 0 ≤ r ∧ r ≤ 5) (hB : B.length ≤ 8) (hi : idsOk B = true) : portOk (prt id r B) = true := by
  have h1 : onlyB (prt id r B) 257 = true := by rw [port_bare]; rfl
  have h2 : portHd (prt id r B) = true := by
    simp [portHd, prt, hid, hr.1, show r ≤ 1073741824 by omega]; exact decide_eq_true (by omega)
  simp only [portOk, h1, h2, show (prt id r B).Backlog = B from rfl, hi, Bool.and_self]
theorem chn_ok {id a b : Int} {p q : List Int} (hid : id ≠ 0) (ha : 0 ≤ a ∧ a ≤ 5) (hb : 0 ≤ b ∧ b ≤ 5) (hs : 0 < a + b) (hp : p.length ≤ 64) (hq : q.length ≤ 64) : chanOk (chn id a b p q) = true := by
  have h1 : onlyB (chn id a b p q) 1536 = true := by rw [chan_bare]; rfl
  have h2 : chEnd a p = true := by rw [chEnd_eq]; simp; omega
  have h3 : chEnd b q = true := by rw [chEnd_eq]; simp; omega
  have h4 : ((⟨a, b⟩ : A2i64) == default) = false := by
    have : ¬ (⟨a, b⟩ : A2i64) = default := fun h => by
      have e1 : a = 0 := congrArg A2i64.x0 h
      have e2 : b = 0 := congrArg A2i64.x1 h
      omega
    simpa using this
  simp only [chanOk, h1, show (chn id a b p q).Ends = ⟨a, b⟩ from rfl, show (chn id a b p q).Queues = ⟨p, q⟩ from rfl, h2, h3, h4]
  simp [chn, hid]
theorem u64_in' {x : Int} (h : 0 ≤ x ∧ x ≤ 18446744073709551615) : IntKind.u64.wrap x = x := IntWalk.u64_in _ h
/-- The numbers from one to another. -/
def rg (a b : Nat) : List Int := (List.range (b - a)).map fun j => ((a + j : Nat) : Int)
theorem rg_len (a b : Nat) : (rg a b).length = b - a := by simp [rg]
theorem rg_nil (a : Nat) : rg a a = [] := by simp [rg]
theorem rg_get {a b i : Nat} (h : i < b - a) : (rg a b).getD i default = ((a + i : Nat) : Int) := by simp [rg, List.getD, h]
theorem rg_snoc {a b : Nat} (h : a ≤ b) : rg a b ++ [(b : Int)] = rg a (b + 1) := by
  unfold rg
  rw [show b + 1 - a = (b - a) + 1 by omega, List.range_succ, List.map_append]
  simp; omega
theorem rg_drop {a b : Nat} (h : a < b) : (rg a b).drop 1 = rg (a + 1) b := by
  apply List.ext_getElem
  · simp [rg]; omega
  · intro i h1 h2
    simp [rg]; omega
theorem rg_mem {a b : Nat} {x : Int} : x ∈ rg a b ↔ (a : Int) ≤ x ∧ x < b := by
  simp only [rg, List.mem_map, List.mem_range]
  constructor
  · rintro ⟨j, h, rfl⟩; omega
  · rintro ⟨h1, h2⟩; exact ⟨(x - a).toNat, by omega, by omega⟩
theorem rg_take {a b i : Nat} (h : i ≤ b - a) : (rg a b).take i = rg a (a + i) := by
  apply List.ext_getElem
  · simp [rg]; omega
  · intro j h1 h2
    simp [rg]
theorem rg_ids {a b : Nat} (h : 1 ≤ a) : idsOk (rg a b) = true := by
  simp only [idsOk, List.all_eq_true, List.mem_range]
  intro i hi
  rw [rg_len] at hi
  simp only [idP, rg_get hi, rg_take (Nat.le_of_lt hi), Bool.and_eq_true, Bool.not_eq_true', decide_eq_false_iff_not, rg_mem, beq_eq_false_iff_ne, ne_eq]
  omega
theorem cpt_Call {id : Int} {a b : Nat} (hid : id ≠ 0) (h1 : 1 ≤ a) (h2 : a ≤ b) (h3 : b - a < 8) : EC Try.prog 44 [.agg (prt id 1 (rg a b)).c, .int .u64 (b : Int)] [] fun r B => B = [] ∧ r = .tup [.agg (prt id 1 (rg a (b + 1))).c, .int .i64 0] := by
  have := ec_channel_Call (prt id 1 (rg a b)) b (prt_small (by rw [rg_len]; omega))
  rwa [show portCall (prt id 1 (rg a b)) b = (prt id 1 (rg a (b + 1)), 0) by
    simp only [portCall, prt_ok (B := rg a b) hid (by decide : (0:Int) ≤ 1 ∧ (1:Int) ≤ 5) (by rw [rg_len]; omega) (rg_ids h1), show (prt id 1 (rg a b)).Backlog = rg a b from rfl, rg_len]
    rw [if_neg (by simp [rg_mem]; omega), if_neg (by simp [prt]), if_neg (by simp; omega), ← rg_snoc h2]
    rfl] at this
theorem cpt_CallF {id : Int} {a b : Nat} (hid : id ≠ 0) (h1 : 1 ≤ a) (h2 : a ≤ b) (h3 : b - a = 8) : EC Try.prog 44 [.agg (prt id 1 (rg a b)).c, .int .u64 (b : Int)] [] fun r B => B = [] ∧ r = .tup [.agg (default : GObject).c, .int .i64 9] := by
  have := ec_channel_Call (prt id 1 (rg a b)) b (prt_small (by rw [rg_len]; omega))
  rwa [show portCall (prt id 1 (rg a b)) b = (default, 9) by
    simp only [portCall, prt_ok (B := rg a b) hid (by decide : (0:Int) ≤ 1 ∧ (1:Int) ≤ 5) (by rw [rg_len]; omega) (rg_ids h1), show (prt id 1 (rg a b)).Backlog = rg a b from rfl, rg_len]
    rw [if_neg (by simp [rg_mem]; omega), if_neg (by simp [prt]), if_pos (by simp; omega)]] at this
theorem cpt_CallC {id : Int} {a b : Nat} (hid : id ≠ 0) (h1 : 1 ≤ a) (h2 : a ≤ b) (h3 : b - a ≤ 8) : EC Try.prog 44 [.agg (prt id 0 (rg a b)).c, .int .u64 (b : Int)] [] fun r B => B = [] ∧ r = .tup [.agg (default : GObject).c, .int .i64 13] := by
  have := ec_channel_Call (prt id 0 (rg a b)) b (prt_small (by rw [rg_len]; omega))
  rwa [show portCall (prt id 0 (rg a b)) b = (default, 13) by
    simp only [portCall, prt_ok (B := rg a b) hid (by decide : (0:Int) ≤ 0 ∧ (0:Int) ≤ 5) (by rw [rg_len]; omega) (rg_ids h1), show (prt id 0 (rg a b)).Backlog = rg a b from rfl, rg_len]
    rw [if_neg (by simp [rg_mem]; omega), if_pos (by simp [prt])]] at this
theorem cpt_Take {id : Int} {a b : Nat} (hid : id ≠ 0) (h1 : 1 ≤ a) (h2 : a < b) (h3 : b - a ≤ 8) : EC Try.prog 46 [.agg (prt id 1 (rg a b)).c] [] fun r B => B = [] ∧ r = .tup [.int .u64 (a : Int), .agg (prt id 1 (rg (a + 1) b)).c, .int .i64 0] := by
  have := ec_channel_Accept (prt id 1 (rg a b)) (prt_small (by rw [rg_len]; omega))
  rwa [show portTake (prt id 1 (rg a b)) = ((a : Int), prt id 1 (rg (a + 1) b), 0) by
    simp only [portTake, prt_ok (B := rg a b) hid (by decide : (0:Int) ≤ 1 ∧ (1:Int) ≤ 5) (by rw [rg_len]; omega) (rg_ids h1), show (prt id 1 (rg a b)).Backlog = rg a b from rfl, rg_len]
    rw [if_neg (by simp), if_neg (by simp; omega), rg_get (by omega), rg_drop h2]
    rfl] at this
theorem cpt_TakeE {id : Int} (hid : id ≠ 0) : EC Try.prog 46 [.agg (prt id 1 []).c] [] fun r B => B = [] ∧ r = .tup [.int .u64 0, .agg (default : GObject).c, .int .i64 12] := by
  have := ec_channel_Accept (prt id 1 []) (prt_small (by decide))
  rwa [show portTake (prt id 1 []) = (0, default, 12) by
    simp only [portTake, prt_ok (B := []) hid (by decide : (0:Int) ≤ 1 ∧ (1:Int) ≤ 5) (by decide) rfl]
    rw [if_neg (by simp), if_pos (by rfl)]] at this
theorem cpt_Valid {id : Int} {a b : Nat} (hid : id ≠ 0) (h1 : 1 ≤ a) (h3 : b - a ≤ 8) : EC Try.prog 48 [.agg (prt id 1 (rg a b)).c] [] fun r B => B = [] ∧ r = .bool true := by
  have := ec_channel_ValidPort (prt id 1 (rg a b)) (prt_small (by rw [rg_len]; omega))
  rwa [prt_ok hid (by decide) (by rw [rg_len]; omega) (rg_ids h1)] at this
theorem cpt_New (id : Int) : EC Try.prog 50 [.int .u64 id] [] fun r B => B = [] ∧ r = .agg (prt id 1 []).c := ec_channel_NewPort id
theorem cch_New (id : Int) : EC Try.prog 59 [.int .u64 id] [] fun r B => B = [] ∧ r = .agg (chn id 1 1 [] []).c := ec_channel_New id
theorem ec_law12_sane : EC Try.prog 42 [] [] fun r B => B = [] ∧ r = .bool true := by
  have c1 := ec_channel_Write0 (chn 3 1 1 [] []) 7 (chn_small (by decide) (by decide))
  have c2 := ec_channel_Read1 (chn 3 1 1 [7] []) (chn_small (by decide) (by decide))
  have c3 := ec_channel_Read0 (chn 3 1 1 [7] []) (chn_small (by decide) (by decide))
  have c4 := ec_channel_Valid (chn 3 1 1 [7] []) (chn_small (by decide) (by decide))
  have k0 := chn_ok (id := 3) (a := 1) (b := 1) (p := []) (q := []) (by decide) (by decide) (by decide) (by decide) (by decide) (by decide)
  have k1 := chn_ok (id := 3) (a := 1) (b := 1) (p := [7]) (q := []) (by decide) (by decide) (by decide) (by decide) (by decide) (by decide)
  rw [k1] at c4
  rw [show chanWrite (chn 3 1 1 [] []) 0 7 = (chn 3 1 1 [7] [], 0) by rw [chanWrite0, k0]; rfl] at c1
  rw [show chanRead (chn 3 1 1 [7] []) 1 = (7, chn 3 1 1 [] [], 0) by rw [chanRead1, k1]; rfl] at c2
  rw [show chanRead (chn 3 1 1 [7] []) 0 = (0, default, 12) by rw [chanRead0, k1]; rfl] at c3
  simp only [r2c, r3c] at c1 c2 c3
  have c5 := ec_channel_Call (prt 4 1 []) 3 (prt_small (by decide))
  rw [show portCall (prt 4 1 []) 3 = (prt 4 1 [3], 0) by
    simp only [portCall, prt_ok (id := 4) (r := 1) (B := []) (by decide) (by decide) (by decide) rfl]; rfl] at c5
  simp only [r2q] at c5
  have c6 := cpt_Take (id := 4) (a := 3) (b := 4) (by decide) (by decide) (by decide) (by decide)
  have c7 := cpt_Valid (id := 4) (a := 3) (b := 4) (by decide) (by decide) (by decide)
  rw [show rg 3 4 = [3] from rfl] at c6 c7
  refine EC.fin (EC.enter E_ok call_42 Try.func42 rfl (by simp [Try.ntmps42]) ?_)
  simp only [Try.ntmps42, Try.results42, bindA]
  (repeat (first | (refine EV_seq ?_; intro K hK) | refine EV_block ?_ | ((refine EV_region E_ok ?_; intro R hR fr; simp only [push_cast, bne_self_eq_false, simprocAttr]; (try (simp (disch := omega) only [i64_in', sub_elt, sub_elt0, getD_map2]; (try simp only [push_cast, bne_self_eq_false, simprocAttr])))); (repeat ((with_reducible apply And.intro); focus (first | (intro hA; exact ⟨hA, fun hB => (by rw [hA, hB]; rfl)⟩) | omega | decide | (simp; done) | (simp; omega)))); apply_assumption -exfalso) | refine EV_skip ?_ | refine EV_scope ?_ | refine EV_label ?_ | refine EV_exit ?_ | refine EV_ret ?_ | (simp only [thenP, blockP, scopeP, if_true, reduceIte, reduceCtorEq, if_false, Nat.reduceEqDiff]; apply_assumption -exfalso)))
  ((refine EV_region E_ok ?_; intro R hR fr; simp only [push_cast, bne_self_eq_false, simprocAttr]; (try (simp (disch := omega) only [i64_in', sub_elt, sub_elt0, getD_map2]; (try simp only [push_cast, bne_self_eq_false, simprocAttr])))); (repeat ((with_reducible apply And.intro); focus (first | (intro hA; exact ⟨hA, fun hB => (by rw [hA, hB]; rfl)⟩) | omega | decide | (simp; done) | (simp; omega)))))
  (refine EC.use (cch_New 3) ?_; (try simp only [hg]); refine EO_run E_ok _ 0 _ _ ?_; intro fr; simp only [push_cast, bne_self_eq_false, simprocAttr]; (try (simp (disch := omega) only [i64_in', sub_elt, sub_elt0, getD_map2]; (try simp only [push_cast, bne_self_eq_false, simprocAttr]))); (repeat ((with_reducible apply And.intro); focus (first | (intro hA; exact ⟨hA, fun hB => (by rw [hA, hB]; rfl)⟩) | omega | decide | (simp; done) | (simp; omega)))); (try apply_assumption -exfalso))
  (refine EC.use (c1) ?_; (try simp only [hg]); refine EO_run E_ok _ 0 _ _ ?_; intro fr; simp only [push_cast, bne_self_eq_false, simprocAttr]; (try (simp (disch := omega) only [i64_in', sub_elt, sub_elt0, getD_map2]; (try simp only [push_cast, bne_self_eq_false, simprocAttr]))); (repeat ((with_reducible apply And.intro); focus (first | (intro hA; exact ⟨hA, fun hB => (by rw [hA, hB]; rfl)⟩) | omega | decide | (simp; done) | (simp; omega)))); (try apply_assumption -exfalso))
  (repeat (first | (refine EV_seq ?_; intro K hK) | refine EV_block ?_ | ((refine EV_region E_ok ?_; intro R hR fr; simp only [push_cast, bne_self_eq_false, simprocAttr]; (try (simp (disch := omega) only [i64_in', sub_elt, sub_elt0, getD_map2]; (try simp only [push_cast, bne_self_eq_false, simprocAttr])))); (repeat ((with_reducible apply And.intro); focus (first | (intro hA; exact ⟨hA, fun hB => (by rw [hA, hB]; rfl)⟩) | omega | decide | (simp; done) | (simp; omega)))); apply_assumption -exfalso) | refine EV_skip ?_ | refine EV_scope ?_ | refine EV_label ?_ | refine EV_exit ?_ | refine EV_ret ?_ | (simp only [thenP, blockP, scopeP, if_true, reduceIte, reduceCtorEq, if_false, Nat.reduceEqDiff]; apply_assumption -exfalso)))
  ((refine EV_region E_ok ?_; intro R hR fr; simp only [push_cast, bne_self_eq_false, simprocAttr]; (try (simp (disch := omega) only [i64_in', sub_elt, sub_elt0, getD_map2]; (try simp only [push_cast, bne_self_eq_false, simprocAttr])))); (repeat ((with_reducible apply And.intro); focus (first | (intro hA; exact ⟨hA, fun hB => (by rw [hA, hB]; rfl)⟩) | omega | decide | (simp; done) | (simp; omega)))))
  (refine EC.use (c2) ?_; (try simp only [hg]); refine EO_run E_ok _ 0 _ _ ?_; intro fr; simp only [push_cast, bne_self_eq_false, simprocAttr]; (try (simp (disch := omega) only [i64_in', sub_elt, sub_elt0, getD_map2]; (try simp only [push_cast, bne_self_eq_false, simprocAttr]))); (repeat ((with_reducible apply And.intro); focus (first | (intro hA; exact ⟨hA, fun hB => (by rw [hA, hB]; rfl)⟩) | omega | decide | (simp; done) | (simp; omega)))); (try apply_assumption -exfalso))
  (repeat (first | (refine EV_seq ?_; intro K hK) | refine EV_block ?_ | ((refine EV_region E_ok ?_; intro R hR fr; simp only [push_cast, bne_self_eq_false, simprocAttr]; (try (simp (disch := omega) only [i64_in', sub_elt, sub_elt0, getD_map2]; (try simp only [push_cast, bne_self_eq_false, simprocAttr])))); (repeat ((with_reducible apply And.intro); focus (first | (intro hA; exact ⟨hA, fun hB => (by rw [hA, hB]; rfl)⟩) | omega | decide | (simp; done) | (simp; omega)))); apply_assumption -exfalso) | refine EV_skip ?_ | refine EV_scope ?_ | refine EV_label ?_ | refine EV_exit ?_ | refine EV_ret ?_ | (simp only [thenP, blockP, scopeP, if_true, reduceIte, reduceCtorEq, if_false, Nat.reduceEqDiff]; apply_assumption -exfalso)))
  ((refine EV_region E_ok ?_; intro R hR fr; simp only [push_cast, bne_self_eq_false, simprocAttr]; (try (simp (disch := omega) only [i64_in', sub_elt, sub_elt0, getD_map2]; (try simp only [push_cast, bne_self_eq_false, simprocAttr])))); (repeat ((with_reducible apply And.intro); focus (first | (intro hA; exact ⟨hA, fun hB => (by rw [hA, hB]; rfl)⟩) | omega | decide | (simp; done) | (simp; omega)))))
  (refine EC.use (c3) ?_; (try simp only [hg]); refine EO_run E_ok _ 0 _ _ ?_; intro fr; simp only [push_cast, bne_self_eq_false, simprocAttr]; (try (simp (disch := omega) only [i64_in', sub_elt, sub_elt0, getD_map2]; (try simp only [push_cast, bne_self_eq_false, simprocAttr]))); (repeat ((with_reducible apply And.intro); focus (first | (intro hA; exact ⟨hA, fun hB => (by rw [hA, hB]; rfl)⟩) | omega | decide | (simp; done) | (simp; omega)))); (try apply_assumption -exfalso))
  (repeat (first | (refine EV_seq ?_; intro K hK) | refine EV_block ?_ | ((refine EV_region E_ok ?_; intro R hR fr; simp only [push_cast, bne_self_eq_false, simprocAttr]; (try (simp (disch := omega) only [i64_in', sub_elt, sub_elt0, getD_map2]; (try simp only [push_cast, bne_self_eq_false, simprocAttr])))); (repeat ((with_reducible apply And.intro); focus (first | (intro hA; exact ⟨hA, fun hB => (by rw [hA, hB]; rfl)⟩) | omega | decide | (simp; done) | (simp; omega)))); apply_assumption -exfalso) | refine EV_skip ?_ | refine EV_scope ?_ | refine EV_label ?_ | refine EV_exit ?_ | refine EV_ret ?_ | (simp only [thenP, blockP, scopeP, if_true, reduceIte, reduceCtorEq, if_false, Nat.reduceEqDiff]; apply_assumption -exfalso)))
  ((refine EV_region E_ok ?_; intro R hR fr; simp only [push_cast, bne_self_eq_false, simprocAttr]; (try (simp (disch := omega) only [i64_in', sub_elt, sub_elt0, getD_map2]; (try simp only [push_cast, bne_self_eq_false, simprocAttr])))); (repeat ((with_reducible apply And.intro); focus (first | (intro hA; exact ⟨hA, fun hB => (by rw [hA, hB]; rfl)⟩) | omega | decide | (simp; done) | (simp; omega)))))
  (refine EC.use (cpt_New 4) ?_; (try simp only [hg]); refine EO_run E_ok _ 0 _ _ ?_; intro fr; simp only [push_cast, bne_self_eq_false, simprocAttr]; (try (simp (disch := omega) only [i64_in', sub_elt, sub_elt0, getD_map2]; (try simp only [push_cast, bne_self_eq_false, simprocAttr]))); (repeat ((with_reducible apply And.intro); focus (first | (intro hA; exact ⟨hA, fun hB => (by rw [hA, hB]; rfl)⟩) | omega | decide | (simp; done) | (simp; omega)))); (try apply_assumption -exfalso))
  (refine EC.use (c5) ?_; (try simp only [hg]); refine EO_run E_ok _ 0 _ _ ?_; intro fr; simp only [push_cast, bne_self_eq_false, simprocAttr]; (try (simp (disch := omega) only [i64_in', sub_elt, sub_elt0, getD_map2]; (try simp only [push_cast, bne_self_eq_false, simprocAttr]))); (repeat ((with_reducible apply And.intro); focus (first | (intro hA; exact ⟨hA, fun hB => (by rw [hA, hB]; rfl)⟩) | omega | decide | (simp; done) | (simp; omega)))); (try apply_assumption -exfalso))
  (repeat (first | (refine EV_seq ?_; intro K hK) | refine EV_block ?_ | ((refine EV_region E_ok ?_; intro R hR fr; simp only [push_cast, bne_self_eq_false, simprocAttr]; (try (simp (disch := omega) only [i64_in', sub_elt, sub_elt0, getD_map2]; (try simp only [push_cast, bne_self_eq_false, simprocAttr])))); (repeat ((with_reducible apply And.intro); focus (first | (intro hA; exact ⟨hA, fun hB => (by rw [hA, hB]; rfl)⟩) | omega | decide | (simp; done) | (simp; omega)))); apply_assumption -exfalso) | refine EV_skip ?_ | refine EV_scope ?_ | refine EV_label ?_ | refine EV_exit ?_ | refine EV_ret ?_ | (simp only [thenP, blockP, scopeP, if_true, reduceIte, reduceCtorEq, if_false, Nat.reduceEqDiff]; apply_assumption -exfalso)))
  ((refine EV_region E_ok ?_; intro R hR fr; simp only [push_cast, bne_self_eq_false, simprocAttr]; (try (simp (disch := omega) only [i64_in', sub_elt, sub_elt0, getD_map2]; (try simp only [push_cast, bne_self_eq_false, simprocAttr])))); (repeat ((with_reducible apply And.intro); focus (first | (intro hA; exact ⟨hA, fun hB => (by rw [hA, hB]; rfl)⟩) | omega | decide | (simp; done) | (simp; omega)))))
  (refine EC.use (c6) ?_; (try simp only [hg]); refine EO_run E_ok _ 0 _ _ ?_; intro fr; simp only [push_cast, bne_self_eq_false, simprocAttr]; (try (simp (disch := omega) only [i64_in', sub_elt, sub_elt0, getD_map2]; (try simp only [push_cast, bne_self_eq_false, simprocAttr]))); (repeat ((with_reducible apply And.intro); focus (first | (intro hA; exact ⟨hA, fun hB => (by rw [hA, hB]; rfl)⟩) | omega | decide | (simp; done) | (simp; omega)))); (try apply_assumption -exfalso))
  (repeat (first | (refine EV_seq ?_; intro K hK) | refine EV_block ?_ | ((refine EV_region E_ok ?_; intro R hR fr; simp only [push_cast, bne_self_eq_false, simprocAttr]; (try (simp (disch := omega) only [i64_in', sub_elt, sub_elt0, getD_map2]; (try simp only [push_cast, bne_self_eq_false, simprocAttr])))); (repeat ((with_reducible apply And.intro); focus (first | (intro hA; exact ⟨hA, fun hB => (by rw [hA, hB]; rfl)⟩) | omega | decide | (simp; done) | (simp; omega)))); apply_assumption -exfalso) | refine EV_skip ?_ | refine EV_scope ?_ | refine EV_label ?_ | refine EV_exit ?_ | refine EV_ret ?_ | (simp only [thenP, blockP, scopeP, if_true, reduceIte, reduceCtorEq, if_false, Nat.reduceEqDiff]; apply_assumption -exfalso)))
  ((refine EV_region E_ok ?_; intro R hR fr; simp only [push_cast, bne_self_eq_false, simprocAttr]; (try (simp (disch := omega) only [i64_in', sub_elt, sub_elt0, getD_map2]; (try simp only [push_cast, bne_self_eq_false, simprocAttr])))); (repeat ((with_reducible apply And.intro); focus (first | (intro hA; exact ⟨hA, fun hB => (by rw [hA, hB]; rfl)⟩) | omega | decide | (simp; done) | (simp; omega)))))
  (refine EC.use (c4) ?_; (try simp only [hg]); refine EO_run E_ok _ 0 _ _ ?_; intro fr; simp only [push_cast, bne_self_eq_false, simprocAttr]; (try (simp (disch := omega) only [i64_in', sub_elt, sub_elt0, getD_map2]; (try simp only [push_cast, bne_self_eq_false, simprocAttr]))); (repeat ((with_reducible apply And.intro); focus (first | (intro hA; exact ⟨hA, fun hB => (by rw [hA, hB]; rfl)⟩) | omega | decide | (simp; done) | (simp; omega)))); (try apply_assumption -exfalso))
  (refine EC.use (c7) ?_; (try simp only [hg]); refine EO_run E_ok _ 0 _ _ ?_; intro fr; simp only [push_cast, bne_self_eq_false, simprocAttr]; (try (simp (disch := omega) only [i64_in', sub_elt, sub_elt0, getD_map2]; (try simp only [push_cast, bne_self_eq_false, simprocAttr]))); (repeat ((with_reducible apply And.intro); focus (first | (intro hA; exact ⟨hA, fun hB => (by rw [hA, hB]; rfl)⟩) | omega | decide | (simp; done) | (simp; omega)))); (try apply_assumption -exfalso))
  (repeat (first | (refine EV_seq ?_; intro K hK) | refine EV_block ?_ | ((refine EV_region E_ok ?_; intro R hR fr; simp only [push_cast, bne_self_eq_false, simprocAttr]; (try (simp (disch := omega) only [i64_in', sub_elt, sub_elt0, getD_map2]; (try simp only [push_cast, bne_self_eq_false, simprocAttr])))); (repeat ((with_reducible apply And.intro); focus (first | (intro hA; exact ⟨hA, fun hB => (by rw [hA, hB]; rfl)⟩) | omega | decide | (simp; done) | (simp; omega)))); apply_assumption -exfalso) | refine EV_skip ?_ | refine EV_scope ?_ | refine EV_label ?_ | refine EV_exit ?_ | refine EV_ret ?_ | (simp only [thenP, blockP, scopeP, if_true, reduceIte, reduceCtorEq, if_false, Nat.reduceEqDiff]; apply_assumption -exfalso)))
  (simp only [push_cast, thenP, blockP, scopeP, retP, evR, evRes, evRes1, Nat.zero_lt_one, Nat.reduceEqDiff, Nat.reduceLT, Nat.reduceAdd, Nat.reduceLeDiff, reduceIte, reduceCtorEq]; simp only [frzKT, frzKLA, frzKA, frzKL, frzKC, frzT, frzLA, frzA, frzL, frzC, fromM, getD', List.getD_cons_zero, List.getD_cons_succ, Nat.zero_le, decide_true, and_true, true_and, and_self, push_cast]; refine SLe.of_eq ?_; rfl)
end Go.Proofs.Ytapfhnlomclnbaa
